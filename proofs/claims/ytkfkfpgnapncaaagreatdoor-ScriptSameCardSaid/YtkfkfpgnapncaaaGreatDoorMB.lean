import Derived.Test.YtkfkfpgnapncaaaGreatDoorMA
set_option linter.unusedSimpArgs false
set_option linter.unusedVariables false
/-! The operations that act, over frames of which only what matters is known. -/
namespace Go.SL
open Go Go.RowKit
variable {ro : Option Nat} {P : Program} {T : TT} {ops : Array Oper} {Q : Exit → Act → World → Prop} {w z : World} {ss : List HL} {nt : Nat} {ds : List Deferred} {env env' : Env} {Kp : Env → World → Prop} {k : Nat}

/-- Operation number k; behind it Kp. -/
def OE (ro : Option Nat) (P : Program) (ops : Array Oper) (Q : Exit → Act → World → Prop) (k nt : Nat) (ds : List Deferred) (env : Env) (w : World) (Kp : Env → World → Prop) : Prop :=
  ∀ (K : Act → World → Prop) (a : Act), Fr nt ds env a → (∀ env' w' a', Kp env' w' → Fr nt ds env' a' → K a' w') → opW ro P ops Q k K a w

theorem SO {n : Nat} (h : OE ro P ops Q k nt ds env w (fun e w' => SE ro P ops Q (k + 1) n nt ds e w')) : SE ro P ops Q k (n + 1) nt ds env w := fun a hf =>
  h _ a hf fun _ _ a' hk hf' => hk a' hf'
theorem MO {S : World → Prop} {N i : Nat} {r : List Stp} (h : OE ro P ops Q i nt ds env w (fun e w' => (i < N → S w') ∧ ME ro P ops Q S N r nt ds e w')) : ME ro P ops Q S N (.e i :: r) nt ds env w := fun a hf =>
  h _ a hf fun _ _ a' hk hf' => ⟨hk.1, hk.2 a' hf'⟩

theorem O_val {o : Oper} {d : Nat} {v : Value} {w' : World} (ho : ops[k]? = some o) (hd : o.dst = some d) (hlt : Nat.blt d nt = true) (hw : wantE ops nt env o = some true)
    (hr : ∀ a, Fr nt ds env a → (execOp a.eval o).run P w = .ok (.value v) w') (h : Kp ((d, v) :: env) w') : OE ro P ops Q k nt ds env w Kp := fun K a hf hK =>
  wpOp_val ho (hf.want hw) (hr a hf) (by rw [hd]; exact hK _ _ _ h (hf.put (Nat.lt_of_succ_le (Nat.le_of_ble_eq_true hlt)) v))

theorem O_pass {o : Oper} {d : Nat} (h : Kp ((d, undef) :: env) w) (ho : ops[k]? = some o := by rfl) (hd : o.dst = some d := by rfl) (hlt : Nat.blt d nt = true := by rfl) (hw : wantE ops nt env o = some false := by as_aux_lemma => kernel_rfl) : OE ro P ops Q k nt ds env w Kp := fun K a hf hK =>
  wpOp_pass ho (hf.want hw) (by rw [hd]; exact hK _ _ _ h (hf.put (Nat.lt_of_succ_le (Nat.le_of_ble_eq_true hlt)) undef))
theorem O_pass0 {o : Oper} (h : Kp env w) (ho : ops[k]? = some o := by rfl) (hd : o.dst = none := by rfl) (hw : wantE ops nt env o = some false := by as_aux_lemma => kernel_rfl) : OE ro P ops Q k nt ds env w Kp := fun K a hf hK =>
  wpOp_pass ho (hf.want hw) (by rw [hd]; exact hK _ _ _ h hf)

theorem O_pure (hT : TOK P T) (v : Value) {o : Oper} {d : Nat} (h : Kp ((d, v) :: env) w) (ho : ops[k]? = some o := by rfl) (hd : o.dst = some d := by rfl) (hlt : Nat.blt d nt = true := by rfl) (hw : wantE ops nt env o = some true := by as_aux_lemma => kernel_rfl) (hi : allIn env o.op = true := by as_aux_lemma => kernel_rfl) (hv : pv T (evD env) o.op = some v := by as_aux_lemma => kernel_rfl) : OE ro P ops Q k nt ds env w Kp := O_val ho hd hlt hw (fun _ hf => pv_run hT hf hi hv w) h

theorem O_load (hT : TOK P T) (hO : Own z w ss) (i : Nat) {o : Oper} {d : Nat} {t : TypeId} {x : Operand} {b off : Nat} {cs : Array Value} {et : TypeId} {v : Value} (h : Kp ((d, v) :: env) w) (ho : ops[k]? = some o := by rfl) (hop : o.op = .load t x := by rfl) (hd : o.dst = some d := by rfl) (hlt : Nat.blt d nt = true := by rfl) (hw : wantE ops nt env o = some true := by as_aux_lemma => kernel_rfl) (hx : evO env x = some (.pointer (some ⟨b, off, none⟩)) := by as_aux_lemma => kernel_rfl) (hb : ss[i]? = some [(b, .cells cs et (0, 0))] := by rfl) (hv : ldP T t cs off = some v := by as_aux_lemma => kernel_rfl) : OE ro P ops Q k nt ds env w Kp :=
  O_val ho hd hlt hw (fun _ hf => run_load_op hT hop (hf.ev hx) (hO.blk i hb) hv) h

/-- From a block of a segment that is not looked into. -/
theorem O_loadM (hT : TOK P T) (hO : Own z w ss) (i : Nat) {s : HL} {o : Oper} {d : Nat} {t : TypeId} {x : Operand} {b off : Nat} {cs : Array Value} {et : TypeId} {v : Value} (hm : (b, .cells cs et (0, 0)) ∈ s) (hv : ldP T t cs off = some v) (h : Kp ((d, v) :: env) w) (hb : ss[i]? = some s := by rfl) (ho : ops[k]? = some o := by rfl) (hop : o.op = .load t x := by rfl) (hd : o.dst = some d := by rfl) (hlt : Nat.blt d nt = true := by rfl) (hw : wantE ops nt env o = some true := by as_aux_lemma => kernel_rfl) (hx : evO env x = some (.pointer (some ⟨b, off, none⟩)) := by as_aux_lemma => kernel_rfl) : OE ro P ops Q k nt ds env w Kp :=
  O_val ho hd hlt hw (fun _ hf => run_load_op hT hop (hf.ev hx) (hO.get i hb hm) hv) h

/-- What a block's cells become. -/
def wr (T : TT) (t : TypeId) (cs : Array Value) (off : Nat) (v : Value) : Array Value := (stP T t cs off v).getD #[]

theorem O_store (hT : TOK P T) (hO : Own z w ss) (i : Nat) {o : Oper} {t : TypeId} {x y : Operand} {b off : Nat} {v : Value} {cs cs' : Array Value} {et : TypeId} (h : ∀ w', Own z w' (ss.set i [(b, .cells cs' et (0, 0))]) → Kp env w') (ho : ops[k]? = some o := by rfl) (hop : o.op = .store t x y := by rfl) (hd : o.dst = none := by rfl) (hw : wantE ops nt env o = some true := by as_aux_lemma => kernel_rfl) (hx : evO env x = some (.pointer (some ⟨b, off, none⟩)) := by as_aux_lemma => kernel_rfl) (hy : evO env y = some v := by rfl) (hb : ss[i]? = some [(b, .cells cs et (0, 0))] := by rfl) (hv : stP T t cs off v = some cs' := by as_aux_lemma => kernel_rfl) : OE ro P ops Q k nt ds env w Kp := fun K a hf hK => by
  refine wpOp_skip ho (hf.want hw) (run_store_op hT hop (hf.ev hx) (hO.blk i hb) (by rw [hf.ev hy]; exact hv)) ?_
  rw [hd]
  exact hK _ _ _ (h _ (hO.put i hb _)) hf

theorem O_alloc (hT : TOK P T) (hO : Own z w ss) {o : Oper} {d : Nat} {t : TypeId} {e : TE} {v : Value} (h : ∀ b w', Own z w' (ss ++ [[(b, .cells v.cells t (0, 0))]]) → Kp ((d, .pointer (some ⟨b, 0, none⟩)) :: env) w') (ho : ops[k]? = some o := by rfl) (hop : o.op = .alloc t := by rfl) (hd : o.dst = some d := by rfl) (hlt : Nat.blt d nt = true := by rfl) (hw : wantE ops nt env o = some true := by as_aux_lemma => kernel_rfl) (ht : T t = some e := by rfl) (hz : e.zero = some v := by rfl) : OE ro P ops Q k nt ds env w Kp := by
  have hr : (Instr.alloc t true (.tuple #[])).run P w = .ok (.pointer (some ⟨w.heap.size, 0, none⟩)) { w with heap := w.heap.push (.cells v.cells t (0, 0)) } := by
    simp [Instr.alloc, run_zero hT ht hz, newVar, newRow]
  refine O_val ho hd hlt hw (fun a _ => ?_) (h _ _ (hO.alloc _))
  obtain ⟨dst, op, type, pos, after, guard⟩ := o
  simp only at hop
  subst hop
  simp only [execOp, Sem.run_bind, hr]
  rfl

theorem O_box (hO : Own z w ss) {o : Oper} {d : Nat} {t : TypeId} {x : Operand} {v : Value} (h : ∀ b w', Own z w' (ss ++ [[(b, .cells v.cells t (0, 0))]]) → Kp ((d, .pointer (some ⟨b, 0, none⟩)) :: env) w') (ho : ops[k]? = some o := by rfl) (hop : o.op = .box t x := by rfl) (hd : o.dst = some d := by rfl) (hlt : Nat.blt d nt = true := by rfl) (hw : wantE ops nt env o = some true := by as_aux_lemma => kernel_rfl) (hx : evO env x = some v := by rfl) : OE ro P ops Q k nt ds env w Kp := by
  have hr : (Instr.box t v).run P w = .ok (.pointer (some ⟨w.heap.size, 0, none⟩)) { w with heap := w.heap.push (.cells v.cells t (0, 0)) } := by
    simp [Instr.box, newVar, newRow]
  refine O_val ho hd hlt hw (fun a hf => ?_) (h _ _ (hO.alloc _))
  obtain ⟨dst, op, type, pos, after, guard⟩ := o
  simp only at hop
  subst hop
  simp only [execOp, Sem.run_bind, hf.ev hx, hr]
  rfl

def evPs (env : Env) : List (Nat × Operand) → Option (List (Nat × Value))
  | [] => some []
  | (i, x) :: r => match evO env x, evPs env r with
    | some v, some l => some ((i, v) :: l)
    | _, _ => none
theorem Fr.evPs {a : Act} (hf : Fr nt ds env a) : ∀ (ps : List (Nat × Operand)) (l : List (Nat × Value)), SL.evPs env ps = some l → ps.map (fun (i, x) => (i, a.eval x)) = l
  | [], l, h => by simp only [SL.evPs, Option.some.injEq] at h; subst h; rfl
  | (i, x) :: r, l, h => by
    simp only [SL.evPs] at h
    split at h
    · rename_i v l' hv hl
      simp only [Option.some.injEq] at h
      subst h
      simp [hf.ev hv, hf.evPs r l' hl]
    · simp at h

theorem O_buildSlice (hT : TOK P T) (hO : Own z w ss) (cs : Array Value) {o : Oper} {d : Nat} {t el : TypeId} {e : TE} {len : Nat} {parts : Array (Nat × Operand)} {l : List (Nat × Value)} (h : ∀ b w', Own z w' (ss ++ [[(b, .cells cs el (0, 0))]]) → Kp ((d, .slice (some ⟨b, 0, none⟩) len len) :: env) w') (ho : ops[k]? = some o := by rfl) (hop : o.op = .buildSlice t len parts := by rfl) (hd : o.dst = some d := by rfl) (hlt : Nat.blt d nt = true := by rfl) (hw : wantE ops nt env o = some true := by as_aux_lemma => kernel_rfl) (ht : T t = some e := by rfl) (hde : e.d = .slice el := by rfl) (hl : Nat.beq len 0 = false := by rfl) (hs : (T el).any (fun g => !Nat.beq g.size 0) = true := by as_aux_lemma => kernel_rfl) (hps : evPs env parts.toList = some l := by rfl) (hc : bsP T el len l = some cs := by as_aux_lemma => kernel_rfl) : OE ro P ops Q k nt ds env w Kp := fun K a hf hK => by
  refine op_buildSlice hT hO cs ho hop (hf.want hw) ht hde (by rintro rfl; simp at hl) (by
    cases hg : T el with
    | none => simp [hg] at hs
    | some g =>
      simp only [hg, Option.any_some] at hs ⊢
      cases hb : Nat.beq g.size 0 with
      | true => simp [hb] at hs
      | false => simp; intro h0; rw [h0] at hb; simp at hb) (by
    rw [← hc]
    congr 1
    have := hf.evPs parts.toList l hps
    simpa using this) ?_
  intro b w' hw'
  rw [hd]
  exact hK _ _ _ (h b w' hw') (hf.put (Nat.lt_of_succ_le (Nat.le_of_ble_eq_true hlt)) _)

/-! ### Calls -/
def evL (env : Env) : List Operand → Option (List Value)
  | [] => some []
  | x :: r => match evO env x, evL env r with
    | some v, some l => some (v :: l)
    | _, _ => none
theorem Fr.evL {a : Act} (hf : Fr nt ds env a) : ∀ (xs : List Operand) (l : List Value), SL.evL env xs = some l → xs.map a.eval = l
  | [], l, h => by simp only [SL.evL, Option.some.injEq] at h; subst h; rfl
  | x :: r, l, h => by
    simp only [SL.evL] at h
    split at h
    · rename_i v l' hv hl
      simp only [Option.some.injEq] at h
      subst h
      simp [hf.ev hv, hf.evL r l' hl]
    · simp at h

/-- Which function an operation calls, with which arguments. -/
def callee (env : Env) (c : Call) : Option (FuncId × Array Value) :=
  match c.callee with
  | .value f => match evO env f with
    | some (.func (.func g) fs cs) => match evL env c.args.toList with
      | some l => some (g, fs ++ l.toArray ++ cs)
      | none => none
    | _ => none
  | _ => none

theorem callee_run {o : Oper} {c : Call} {f : FuncId} {args : Array Value} {a : Act} (hf : Fr nt ds env a) (hop : o.op = .call c) (hc : callee env c = some (f, args))
    (hcall : ∀ (args : Array Value) (w : World), (callFunc f args).run P w = .ok (.enter f args) w) : (execOp a.eval o).run P w = .ok (.enter f args) w := by
  obtain ⟨dst, op, type, pos, after, guard⟩ := o
  simp only at hop
  subst hop
  unfold callee at hc
  split at hc
  · rename_i x hx
    split at hc
    · rename_i g fs cs hv
      split at hc
      · rename_i l hl
        simp only [Option.some.injEq, Prod.mk.injEq] at hc
        obtain ⟨rfl, rfl⟩ := hc
        have e1 : a.eval x = .func (.func g) fs cs := hf.ev hv
        have e2 : c.args.map a.eval = l.toArray := by
          have := hf.evL c.args.toList l hl
          apply Array.ext'
          simpa using this
        simp only [execOp, resolve, hx, e1, e2, Deferred.ofValue]
        exact hcall _ _
      · simp at hc
    · simp at hc
  · simp at hc

theorem O_call {f : FuncId} {args : Array Value} {R : Value → World → Prop} (hcall : ∀ (args : Array Value) (w : World), (callFunc f args).run P w = .ok (.enter f args) w) (hc : Ret P f args w R) {o : Oper} {d : Nat} {c : Call} (h : ∀ v w', R v w' → Kp ((d, v) :: env) w') (ho : ops[k]? = some o := by rfl) (hop : o.op = .call c := by rfl) (hd : o.dst = some d := by rfl) (hlt : Nat.blt d nt = true := by rfl) (hw : wantE ops nt env o = some true := by as_aux_lemma => kernel_rfl) (hcl : callee env c = some (f, args) := by as_aux_lemma => kernel_rfl) : OE ro P ops Q k nt ds env w Kp := fun K a hf hK =>
  op_call ho (hf.want hw) (callee_run hf hop hcl hcall) hc fun v w' hR => by rw [hd]; exact hK _ _ _ (h v w' hR) (hf.put (Nat.lt_of_succ_le (Nat.le_of_ble_eq_true hlt)) v)

/-- A call that may panic. -/
theorem O_callP {f : FuncId} {args : Array Value} {R : Ending → World → Prop} (hcall : ∀ (args : Array Value) (w : World), (callFunc f args).run P w = .ok (.enter f args) w) (hc : Calls P f args w R) {o : Oper} {d : Nat} {c : Call} (hp : ∀ ch w', R (.panicked ch) w' → QE Q (.panic ch) nt ds env w') (hout : ∀ w', ¬ R .outgrown w') (h : ∀ v w', R (.returned v) w' → Kp ((d, v) :: env) w') (ho : ops[k]? = some o := by rfl) (hop : o.op = .call c := by rfl) (hd : o.dst = some d := by rfl) (hlt : Nat.blt d nt = true := by rfl) (hw : wantE ops nt env o = some true := by as_aux_lemma => kernel_rfl) (hcl : callee env c = some (f, args) := by as_aux_lemma => kernel_rfl) : OE ro P ops Q k nt ds env w Kp := fun K a hf hK =>
  op_callP ho (hf.want hw) (callee_run hf hop hcl hcall) hc (fun v w' hR => by rw [hd]; exact hK _ _ _ (h v w' hR) (hf.put (Nat.lt_of_succ_le (Nat.le_of_ble_eq_true hlt)) v)) (fun ch w' hR => hp ch w' hR a hf) hout
end Go.SL

/-! Code, over frames of which only what matters is known. -/
namespace Go.SL
open Go Go.RowKit
variable {ro : Option Nat} {P : Program} {T : TT} {ops : Array Oper} {Q : Exit → Act → World → Prop} {w z : World} {ss : List HL} {nt : Nat} {ds : List Deferred} {env env' : Env} {Kp : Env → World → Prop} {k : Nat}

def env0 : Nat → List Value → Env
  | _, [] => []
  | i, v :: r => (i, v) :: env0 (i + 1) r

theorem fr0 {nt : Nat} {args : List Value} (hl : Nat.ble args.length nt = true) : Fr nt [] (env0 0 args) ⟨args.toArray ++ Array.replicate (nt - args.toArray.size) undef, []⟩ := by
  have hle := Nat.le_of_ble_eq_true hl
  refine ⟨by simp; omega, rfl, ?_⟩
  have key : ∀ (l : List Value) (i s : Nat) (v : Value), look (env0 i l) s = some v → i ≤ s ∧ l[s - i]? = some v := by
    intro l
    induction l with
    | nil => intro i s v h; simp [env0, look] at h
    | cons u r ih =>
      intro i s v h
      simp only [env0, look] at h
      cases hb : Nat.beq s i with
      | true =>
        simp only [hb, Option.some.injEq] at h
        have := Nat.eq_of_beq_eq_true hb
        subst this; subst h
        simp
      | false =>
        simp only [hb] at h
        obtain ⟨h1, h2⟩ := ih (i + 1) s v h
        refine ⟨by omega, ?_⟩
        have e : s - i = (s - (i + 1)) + 1 := by omega
        rw [e, List.getElem?_cons_succ]; exact h2
  intro s v h
  rw [look_eq] at h
  obtain ⟨_, h2⟩ := key args 0 s v h
  simp only [Nat.sub_zero] at h2
  have hs : s < args.length := (List.getElem?_eq_some_iff.1 h2).1
  rw [Array.getD_eq_getD_getElem?, Array.getElem?_append_left (by simpa using hs)]
  simp [h2]

theorem enterE {f : FuncId} {fn : Func} {c : Code} {args : List Value} {R : Value → World → Prop} (hn : fn.ntmps = nt) (hf : P.funcs[f]? = some fn) (h : CE none P c (bodyPost P fn (fun e w' => ∃ v, e = .returned v ∧ R v w')) nt [] (env0 0 args) w) (hb : fn.body = some c := by rfl) (hl : Nat.ble args.length nt = true := by rfl) : Ret P f args.toArray w R := by
  refine calls_of_wp hf hb ?_
  rw [hn]
  exact wpIn_wide.1 (h _ (fr0 hl))
theorem enterEC {f : FuncId} {fn : Func} {c : Code} {args : List Value} {R : Ending → World → Prop} (hn : fn.ntmps = nt) (hf : P.funcs[f]? = some fn) (h : CE none P c (bodyPost P fn R) nt [] (env0 0 args) w) (hb : fn.body = some c := by rfl) (hl : Nat.ble args.length nt = true := by rfl) : Calls P f args.toArray w R := by
  refine calls_of_wp hf hb ?_
  rw [hn]
  exact wpIn_wide.1 (h _ (fr0 hl))

theorem cReg {id : Nat} (n : Nat) (h : SE ro P ops Q 0 n nt ds env w) (hn : ops.size = n := by rfl) : CE ro P (.region id ops false) Q nt ds env w := fun a hf => region n hn (h a hf)
theorem cSeq {x y : Code} (h : CE ro P x (Exit.then (y.wpIn (FW ro) 0 P Q) Q) nt ds env w) : CE ro P (.seq x y) Q nt ds env w := fun a hf => wpIn_seq (h a hf)
theorem cSkip (h : QE Q .normal nt ds env w) : CE ro P .skip Q nt ds env w := fun a hf => wpIn_skip (h a hf)
theorem cRet (h : QE Q .ret nt ds env w) : CE ro P .ret Q nt ds env w := fun a hf => wpIn_ret (h a hf)
theorem cExit {id : Nat} (h : QE Q (.exit id) nt ds env w) : CE ro P (.exit id) Q nt ds env w := fun a hf => wpIn_exit (h a hf)
theorem cBlk {id : Nat} {c : Code} (h : CE ro P c (Exit.inBlock id Q) nt ds env w) : CE ro P (.block id c) Q nt ds env w := fun a hf => wpIn_block (h a hf)
theorem cT {c : Operand} {x y : Code} (h : CE ro P x Q nt ds env w) (hc : evO env c = some (.bool true) := by as_aux_lemma => kernel_rfl) : CE ro P (.cond c x y) Q nt ds env w := fun a hf => wpIn_cond_true (hf.ev hc) (h a hf)
theorem cF {c : Operand} {x y : Code} (h : CE ro P y Q nt ds env w) (hc : evO env c = some (.bool false) := by as_aux_lemma => kernel_rfl) : CE ro P (.cond c x y) Q nt ds env w := fun a hf => wpIn_cond_false (hf.ev hc) (h a hf)
theorem sEnd (h : QE Q .normal nt ds env w) : SE ro P ops Q k 0 nt ds env w := h
theorem mEnd {S : World → Prop} {N : Nat} (h : QE Q .normal nt ds env w) : ME ro P ops Q S N [] nt ds env w := h

theorem qThen {y : Code} (h : CE ro P y Q nt ds env w) : QE (Exit.then (y.wpIn (FW ro) 0 P Q) Q) .normal nt ds env w := h
theorem qThenR {Y : Act → World → Prop} (h : QE Q .ret nt ds env w) : QE (Exit.then Y Q) .ret nt ds env w := h
theorem qThenX {Y : Act → World → Prop} {id : Nat} (h : QE Q (.exit id) nt ds env w) : QE (Exit.then Y Q) (.exit id) nt ds env w := h
theorem qThenP {Y : Act → World → Prop} {ch : List PanicEntry} (h : QE Q (.panic ch) nt ds env w) : QE (Exit.then Y Q) (.panic ch) nt ds env w := h
theorem qBlk {id : Nat} (h : QE Q .normal nt ds env w) : QE (Exit.inBlock id Q) .normal nt ds env w := h
theorem qBlkR {id : Nat} (h : QE Q .ret nt ds env w) : QE (Exit.inBlock id Q) .ret nt ds env w := h
theorem qBlkP {id : Nat} {ch : List PanicEntry} (h : QE Q (.panic ch) nt ds env w) : QE (Exit.inBlock id Q) (.panic ch) nt ds env w := h
theorem qBlkX {id : Nat} (h : QE Q .normal nt ds env w) : QE (Exit.inBlock id Q) (.exit id) nt ds env w := fun a hf => be (h a hf)
theorem qBlkY {id id' : Nat} (h : QE Q (.exit id') nt ds env w) (hne : (id' == id) = false := by rfl) : QE (Exit.inBlock id Q) (.exit id') nt ds env w := fun a hf => bne hne (h a hf)

/-- A slot, spelled otherwise. -/
theorem setS {n : Nat} (j : Nat) {v : Value} (v' : Value) (h : v = v') (hk : SE ro P ops Q k n nt ds ((j, v') :: env) w) (hj : look env j = some v := by as_aux_lemma => kernel_rfl) : SE ro P ops Q k n nt ds env w := fun a hf =>
  hk a ⟨hf.size, hf.defers, fun s u hs => by
    rw [look_eq] at hs
    simp only [look] at hs
    cases hb : Nat.beq s j with
    | true => simp only [hb, Option.some.injEq] at hs; subst hs; rw [Nat.eq_of_beq_eq_true hb, hf.look hj, h]
    | false => simp only [hb] at hs; exact hf.look hs⟩
theorem setC {c : Code} (j : Nat) {v : Value} (v' : Value) (h : v = v') (hk : CE ro P c Q nt ds ((j, v') :: env) w) (hj : look env j = some v := by as_aux_lemma => kernel_rfl) : CE ro P c Q nt ds env w := fun a hf =>
  hk a ⟨hf.size, hf.defers, fun s u hs => by
    rw [look_eq] at hs
    simp only [look] at hs
    cases hb : Nat.beq s j with
    | true => simp only [hb, Option.some.injEq] at hs; subst hs; rw [Nat.eq_of_beq_eq_true hb, hf.look hj, h]
    | false => simp only [hb] at hs; exact hf.look hs⟩
theorem setM {S : World → Prop} {N : Nat} {r : List Stp} (j : Nat) {v : Value} (v' : Value) (h : v = v') (hk : ME ro P ops Q S N r nt ds ((j, v') :: env) w) (hj : look env j = some v := by as_aux_lemma => kernel_rfl) : ME ro P ops Q S N r nt ds env w := fun a hf =>
  hk a ⟨hf.size, hf.defers, fun s u hs => by
    rw [look_eq] at hs
    simp only [look] at hs
    cases hb : Nat.beq s j with
    | true => simp only [hb, Option.some.injEq] at hs; subst hs; rw [Nat.eq_of_beq_eq_true hb, hf.look hj, h]
    | false => simp only [hb] at hs; exact hf.look hs⟩

/-! ### Regions that draw -/
theorem pE_sem (hT : TOK P T) {S : World → Prop} {N : Nat} {r : List Stp} (hS : S w) : ∀ (l : List Nat) (env : Env), pE T ops nt l env = some env' → ME ro P ops Q S N r nt ds env' w → ME ro P ops Q S N (qs l r) nt ds env w
  | [], env, h, h' => by simp only [pE, Option.some.injEq] at h; subst h; exact h'
  | k :: l, env, h, h' => by
    intro a hf
    unfold pE at h
    cases ho : ops[k]? with
    | none => simp [ho] at h
    | some o =>
      simp only [ho] at h
      cases hd : o.dst with
      | none => simp [hd] at h
      | some d =>
        simp only [hd] at h
        cases hlt : Nat.blt d nt with
        | false => simp [hlt] at h
        | true =>
          simp only [hlt] at h
          have hdn : d < nt := Nat.lt_of_succ_le (Nat.le_of_ble_eq_true hlt)
          cases hw : wantE ops nt env o with
          | none => simp [hw] at h
          | some b =>
            cases b with
            | true =>
              simp only [hw] at h
              cases hi : allIn env o.op with
              | false => simp [hi] at h
              | true =>
                simp only [hi] at h
                cases hv : pv T (evD env) o.op with
                | none => simp [hv] at h
                | some v =>
                  simp only [hv] at h
                  refine ⟨hS, o, v, ho, .inl ⟨hf.want hw, fun w _ => pv_run hT hf hi hv w⟩, ?_⟩
                  rw [hd]
                  exact pE_sem hT hS l _ h h' _ (hf.put hdn v)
            | false =>
              simp only [hw] at h
              refine ⟨hS, o, undef, ho, .inr ⟨hf.want hw, rfl⟩, ?_⟩
              rw [hd]
              exact pE_sem hT hS l _ h h' _ (hf.put hdn undef)

theorem MP (hT : TOK P T) {S : World → Prop} {N : Nat} {r : List Stp} (hS : S w) (l live : List Nat) (hk : ME ro P ops Q S N r nt ds env' w) (h : ((pE T ops nt l env).bind fun e => restr e live) = some env' := by as_aux_lemma => kernel_rfl) : ME ro P ops Q S N (qs l r) nt ds env w := by
  cases he : pE T ops nt l env with
  | none => simp [he] at h
  | some e =>
    simp only [he, Option.bind_some] at h
    exact pE_sem hT hS l env he fun a hf => hk a (hf.restr live h)

theorem ML (hT : TOK P T) {l : HL} (hS : Has l w) {N : Nat} {r : List Stp} {i d : Nat} {o : Oper} {t : TypeId} {x : Operand} {b off : Nat} {cs : Array Value} {et : TypeId} {v : Value} (hb : (b, .cells cs et (0, 0)) ∈ l) (h : ME ro P ops Q (Has l) N r nt ds ((d, v) :: env) w) (ho : ops[i]? = some o := by rfl) (hop : o.op = .load t x := by rfl) (hd : o.dst = some d := by rfl) (hlt : Nat.blt d nt = true := by rfl) (hw : wantE ops nt env o = some true := by as_aux_lemma => kernel_rfl) (hx : evO env x = some (.pointer (some ⟨b, off, none⟩)) := by as_aux_lemma => kernel_rfl) (hv : ldP T t cs off = some v := by as_aux_lemma => kernel_rfl) : ME ro P ops Q (Has l) N (.q i :: r) nt ds env w := fun a hf =>
  ⟨hS, o, v, ho, .inl ⟨hf.want hw, fun _ hS' => run_load_op hT hop (hf.ev hx) (hS' _ hb) hv⟩, by rw [hd]; exact h _ (hf.put (Nat.lt_of_succ_le (Nat.le_of_ble_eq_true hlt)) v)⟩

theorem cDraw {id : Nat} (S : World → Prop) (N : Nat) (ord : List Stp) (hO : Own z w ss) (hm : P.follows .mixedOrders = true) (hQ : ∀ c a w (d : Option Tmp) v, Q (.panic c) (a.put d v) w → Q (.panic c) a w) (h : ∀ w, Own z w ss → ME ro P ops Q S N ord nt ds env w) (hc : (tailOk ops N && Region.noSelect ops && noDefer ops && chk ops N (Array.replicate ops.size false) ord && Nat.ble ord.length ops.size) = true := by as_aux_lemma => kernel_rfl) : CE ro P (.region id ops true) Q nt ds env w := fun a hf =>
  draw S N ord hO hm hc hQ fun w hO' => h w hO' a hf

/-! ### Loops -/
/-- A loop: what holds at each round's head, with a number that every round lowers. -/
theorem cLoop {c : Code} (I : Nat → Env → World → Prop) (n₀ : Nat) (h₀ : I n₀ env w)
    (round : ∀ n env w, I n env w → CE ro P c (Exit.then (fun a' w' => ∃ m env', m < n ∧ Fr nt ds env' a' ∧ I m env' w') Q) nt ds env w) : CE ro P (.loop c) Q nt ds env w := by
  intro a hf
  refine wpIn_loop_ghost (fun n a w => ∃ env, Fr nt ds env a ∧ I n env w) n₀ ⟨env, hf, h₀⟩ ?_
  rintro n a w ⟨env, hf, hI⟩
  refine wpIn_mono (round n env w hI a hf) ?_
  intro e a' w' hq
  cases e with
  | normal => obtain ⟨m, env', hlt, hf', hI'⟩ := hq; exact ⟨m, hlt, env', hf', hI'⟩
  | exit id => exact hq
  | goto l => exact hq
  | ret => exact hq
  | panic ch => exact hq
  | outgrown => exact hq
/-- The end of a loop's round. -/
theorem qLoop {I : Nat → Env → World → Prop} {n : Nat} (m : Nat) (hlt : m < n) (live : List Nat) (h : I m env' w) (hr : restr env live = some env' := by as_aux_lemma => kernel_rfl) :
    QE (Exit.then (fun a' w' => ∃ m env', m < n ∧ Fr nt ds env' a' ∧ I m env' w') Q) .normal nt ds env w := fun _ hf => ⟨m, env', hlt, hf.restr live hr, h⟩

/-! ### Results -/
def RVE (P : Program) (env : Env) (w : World) (r : ResultVar) (v : Value) : Prop :=
  match r with
  | .tmp t => look env t = some v
  | .cell p ty => ∃ ad, look env p = some (.pointer (some ad)) ∧ (loadVar ty ad).run P w = .ok v w
def RVEs (P : Program) (env : Env) (w : World) : List ResultVar → List Value → Prop
  | [], [] => True
  | r :: rs, v :: vs => RVE P env w r v ∧ RVEs P env w rs vs
  | _, _ => False
theorem RVEs.rvs {a : Act} (hf : Fr nt ds env a) : ∀ (rs : List ResultVar) (vs : List Value), RVEs P env w rs vs → RVs P a w rs vs
  | [], [], _ => trivial
  | r :: rs, v :: vs, h => ⟨by
      cases r with
      | tmp t => exact hf.look h.1
      | cell p ty => obtain ⟨ad, h1, h2⟩ := h.1; exact ⟨ad, hf.look h1, h2⟩, RVEs.rvs hf rs vs h.2⟩
  | [], _ :: _, h => h.elim
  | _ :: _, [], h => h.elim
theorem rT {t : Tmp} {v : Value} (h : look env t = some v := by as_aux_lemma => kernel_rfl) : RVE P env w (.tmp t) v := h
theorem rC (hT : TOK P T) {p ty : Nat} {b off : Nat} {cs : Array Value} {et : TypeId} {v : Value} (hO : Own z w ss) (i : Nat) (hp : look env p = some (.pointer (some ⟨b, off, none⟩)) := by as_aux_lemma => kernel_rfl) (hb : ss[i]? = some [(b, .cells cs et (0, 0))] := by rfl) (hv : ldP T ty cs off = some v := by as_aux_lemma => kernel_rfl) : RVE P env w (.cell p ty) v := ⟨_, hp, run_load_blk hT (hO.blk i hb) hv⟩

theorem qRet {fn : Func} {R : Value → World → Prop} {rs : List ResultVar} (vs : List Value) (u : Value) (hv : RVEs P env w rs vs) (h : R u w) (hr : fn.results = rs.toArray := by rfl) (hu : mkRes vs = u := by rfl) :
    QE (bodyPost P fn (fun e w' => ∃ v, e = .returned v ∧ R v w')) .ret nt [] env w := fun a hf => by subst hu; exact retN hr hf.defers (hv.rvs hf) h
theorem qEnd {fn : Func} {R : Value → World → Prop} {rs : List ResultVar} (vs : List Value) (u : Value) (hv : RVEs P env w rs vs) (h : R u w) (hr : fn.results = rs.toArray := by rfl) (hu : mkRes vs = u := by rfl) :
    QE (bodyPost P fn (fun e w' => ∃ v, e = .returned v ∧ R v w')) .normal nt [] env w := fun a hf => by subst hu; exact endN hr hf.defers (hv.rvs hf) h
theorem qRetC {fn : Func} {R : Ending → World → Prop} {rs : List ResultVar} (vs : List Value) (u : Value) (hv : RVEs P env w rs vs) (h : R (.returned u) w) (hr : fn.results = rs.toArray := by rfl) (hu : mkRes vs = u := by rfl) :
    QE (bodyPost P fn R) .ret nt [] env w := fun a hf => by subst hu; exact retNC hr hf.defers (hv.rvs hf) h
theorem qEndC {fn : Func} {R : Ending → World → Prop} {rs : List ResultVar} (vs : List Value) (u : Value) (hv : RVEs P env w rs vs) (h : R (.returned u) w) (hr : fn.results = rs.toArray := by rfl) (hu : mkRes vs = u := by rfl) :
    QE (bodyPost P fn R) .normal nt [] env w := fun a hf => by subst hu; exact endNC hr hf.defers (hv.rvs hf) h
theorem qPanic {fn : Func} {R : Ending → World → Prop} {ch : List PanicEntry} (h : R (.panicked ch) w) : QE (bodyPost P fn R) (.panic ch) nt [] env w := fun _ hf => ⟨hf.defers, h⟩
end Go.SL

/-! Slices: rows of elements, each of so many cells; what lies behind the length is spare. -/
namespace Go.SL
open Go Go.RowKit
variable {ro : Option Nat} {P : Program} {T : TT} {ops : Array Oper} {Q : Exit → Act → World → Prop} {w z : World} {ss : List HL} {nt : Nat} {ds : List Deferred} {env env' : Env} {Kp : Env → World → Prop} {k : Nat}

theorem drop_mid {α : Type} (A M B : List α) (off n : Nat) (h : off + n ≤ M.length) : ((A ++ (M ++ B)).drop (A.length + off)).take n = (M.drop off).take n := by
  rw [List.drop_append, List.drop_eq_nil_of_le (by omega), List.nil_append, show A.length + off - A.length = off by omega, List.drop_append_of_le_length (by omega),
    List.take_append_of_le_length (by rw [List.length_drop]; omega)]

theorem ldP_mid {t : TypeId} {A M B : List Value} {off : Nat} {v : Value} (h : ldP T t M.toArray off = some v) : ldP T t (A ++ (M ++ B)).toArray (A.length + off) = some v := by
  unfold ldP at h ⊢
  cases ht : T t with
  | none => simp [ht] at h
  | some e =>
    simp only [ht] at h ⊢
    cases ha : aggD e.d with
    | true =>
      simp only [ha] at h ⊢
      by_cases hle : off + e.size ≤ M.length
      · have h1 : off + e.size ≤ M.toArray.size := by simpa using hle
        have h2 : A.length + off + e.size ≤ (A ++ (M ++ B)).toArray.size := by simp; omega
        simp only [h1, decide_true, Option.some.injEq] at h
        simp only [h2, decide_true, Option.some.injEq]
        rw [← h]
        congr 1
        apply Array.ext'
        simp only [List.extract_toArray, List.extract_eq_take_drop]
        rw [show A.length + off + e.size - (A.length + off) = e.size by omega, show off + e.size - off = e.size by omega, drop_mid A M B off e.size hle]
      · have h1 : ¬ off + e.size ≤ M.toArray.size := by simpa using hle
        simp [hle] at h
    | false =>
      simp only [ha] at h ⊢
      have hlt : off < M.length := by
        have := (Array.getElem?_eq_some_iff.1 h).1
        simpa using this
      simp only [List.getElem?_toArray] at h ⊢
      rw [List.getElem?_append_right (by omega), show A.length + off - A.length = off by omega, List.getElem?_append_left hlt]
      exact h

theorem stP_mid {t : TypeId} {A M B : List Value} {off : Nat} {v : Value} {M' : Array Value} (h : stP T t M.toArray off v = some M') :
    stP T t (A ++ (M ++ B)).toArray (A.length + off) v = some (A ++ (M'.toList ++ B)).toArray := by
  unfold stP at h ⊢
  cases ht : T t with
  | none => simp [ht] at h
  | some e =>
    simp only [ht] at h ⊢
    by_cases h1 : v.cells.size = e.size
    · simp only [h1, decide_true] at h ⊢
      by_cases h2 : off + e.size ≤ M.length
      · have h3 : off + e.size ≤ M.toArray.size := by simpa using h2
        have h4 : A.length + off + e.size ≤ (A ++ (M ++ B)).toArray.size := by simp; omega
        simp only [h3, decide_true] at h
        simp only [h4, decide_true]
        cases h5 : v.cells.toList.all one with
        | false => simp [h5] at h
        | true =>
          simp only [h5, Option.some.injEq] at h ⊢
          subst h
          congr 1
          simp only [List.append_assoc]
          rw [List.take_append, List.take_of_length_le (by omega), show A.length + off - A.length = off by omega, List.take_append_of_le_length (by omega),
            List.drop_append, List.drop_eq_nil_of_le (by omega), List.nil_append, show A.length + off + e.size - A.length = off + e.size by omega, List.drop_append_of_le_length (by omega)]
          simp [List.append_assoc]
      · have h3 : ¬ off + e.size ≤ M.toArray.size := by simpa using h2
        simp [h2] at h
    · simp [h1] at h

/-! ### Rows -/
variable {α : Type} {enc : α → List Value} {size : Nat}
def rows (enc : α → List Value) (l : List α) (sp : List Value) : Array Value := (l.flatMap enc ++ sp).toArray

/-- How many cells. -/
theorem flat_len (hz : ∀ x, (enc x).length = size) (l : List α) : (l.flatMap enc).length = l.length * size := by
  induction l with
  | nil => simp
  | cons x l ih => simp [List.flatMap_cons, hz, ih, Nat.add_mul, Nat.add_comm]

theorem rows_split (l : List α) (sp : List Value) (i : Nat) {x : α} (hx : l[i]? = some x) :
    rows enc l sp = ((l.take i).flatMap enc ++ (enc x ++ ((l.drop (i + 1)).flatMap enc ++ sp))).toArray := by
  obtain ⟨hi, rfl⟩ := List.getElem?_eq_some_iff.1 hx
  unfold rows
  have e : l.flatMap enc = (l.take i ++ l[i] :: l.drop (i + 1)).flatMap enc := by rw [← List.drop_eq_getElem_cons hi, List.take_append_drop]
  rw [e, List.flatMap_append, List.flatMap_cons]
  simp only [List.append_assoc]

theorem ldP_rows (hz : ∀ x, (enc x).length = size) {t : TypeId} {l : List α} {sp : List Value} {i off : Nat} {v : Value} {x : α} (hx : l[i]? = some x) (h : ldP T t (enc x).toArray off = some v) :
    ldP T t (rows enc l sp) (i * size + off) = some v := by
  have hi := (List.getElem?_eq_some_iff.1 hx).1
  rw [rows_split l sp i hx]
  have hl : ((l.take i).flatMap enc).length = i * size := by rw [flat_len hz, List.length_take, Nat.min_eq_left (by omega)]
  rw [← hl]
  exact ldP_mid h

theorem stP_rows (hz : ∀ x, (enc x).length = size) {t : TypeId} {l : List α} {sp : List Value} {i off : Nat} {v : Value} {x y : α} (hx : l[i]? = some x) (h : stP T t (enc x).toArray off v = some (enc y).toArray) :
    stP T t (rows enc l sp) (i * size + off) v = some (rows enc (l.set i y) sp) := by
  have hi := (List.getElem?_eq_some_iff.1 hx).1
  have hy : (l.set i y)[i]? = some y := by simp [hi]
  rw [rows_split l sp i hx, rows_split (l.set i y) sp i hy]
  have hl : ((l.take i).flatMap enc).length = i * size := by rw [flat_len hz, List.length_take, Nat.min_eq_left (by omega)]
  rw [← hl, stP_mid h]
  congr 3
  · rw [List.take_set_of_le (Nat.le_refl _)]
  · simp [List.drop_set_of_lt]

/-- A slice's value and its row: 'p' where it begins, 'c' its capacity, 's' the block. -/
inductive Sl (et : TypeId) (size : Nat) (enc : α → List Value) : Option Addr → Nat → List α → HL → Prop
  | nil : Sl et size enc none 0 [] []
  | row (b : Nat) (sp : List Value) (c : Nat) (l : List α) (hc : l.length ≤ c) (hs : (c - l.length) * size ≤ sp.length) : Sl et size enc (some ⟨b, 0, none⟩) c l [(b, .cells (rows enc l sp) et (0, 0))]

theorem Sl.at {et : TypeId} {p : Option Addr} {c : Nat} {l : List α} {s : HL} (h : Sl et size enc p c l s) (hl : 0 < l.length) :
    ∃ b sp, p = some ⟨b, 0, none⟩ ∧ s = [(b, .cells (rows enc l sp) et (0, 0))] ∧ l.length ≤ c ∧ (c - l.length) * size ≤ sp.length := by
  cases h with
  | nil => simp at hl
  | row b sp c l hc hs => exact ⟨b, sp, rfl, rfl, hc, hs⟩

theorem Sl.some {et : TypeId} {b o : Nat} {sp' : Option Nat} {c : Nat} {l : List α} {s : HL} (h : Sl et size enc (some ⟨b, o, sp'⟩) c l s) :
    ∃ sp, s = [(b, .cells (rows enc l sp) et (0, 0))] ∧ l.length ≤ c ∧ (c - l.length) * size ≤ sp.length ∧ o = 0 ∧ sp' = none := by
  cases h with
  | row b sp c l hc hs => exact ⟨sp, rfl, hc, hs, rfl, rfl⟩

/-- &x[i] of a slice. -/
theorem O_idx (hT : TOK P T) (j : Nat) {n c : Nat} {o : Oper} {d : Nat} {t el : TypeId} {e g : TE} {x ix : Operand} {b off : Nat} {kk : IntKind} {i : Int} (hi : i = (j : Int)) (hj : j < n)
    (h : Kp ((d, .pointer (some ⟨b, off + j * g.size, none⟩)) :: env) w)
    (ho : ops[k]? = some o := by rfl) (hop : o.op = .indexAddr t x ix := by rfl) (hd : o.dst = some d := by rfl) (hlt : Nat.blt d nt = true := by rfl) (hw : wantE ops nt env o = some true := by as_aux_lemma => kernel_rfl)
    (hx : evO env x = some (.slice (some ⟨b, off, none⟩) n c) := by rfl) (hix : evO env ix = some (.int kk i) := by rfl)
    (ht : T t = some e := by rfl) (hde : e.d = .slice el := by rfl) (hg : T el = some g := by rfl) : OE ro P ops Q k nt ds env w Kp := by
  refine O_val ho hd hlt hw (fun a hf => ?_) h
  obtain ⟨dst, op, type, pos, after, guard⟩ := o
  simp only at hop
  subst hop
  have hu := run_und hT ht w
  rw [hde] at hu
  subst hi
  simp [execOp, Instr.indexAt, hf.ev hx, hf.ev hix, asIntOf, hu, run_size hT hg, hj, Addr.add_mid]
/-- &a[i] of an array behind a pointer. -/
theorem O_idxA (hT : TOK P T) (j : Nat) {n : Nat} {o : Oper} {d : Nat} {t el : TypeId} {e g : TE} {x ix : Operand} {b off : Nat} {kk : IntKind} {i : Int} (hi : i = (j : Int)) (hj : j < n)
    (h : Kp ((d, .pointer (some ⟨b, off + j * g.size, none⟩)) :: env) w)
    (ho : ops[k]? = some o := by rfl) (hop : o.op = .indexAddr t x ix := by rfl) (hd : o.dst = some d := by rfl) (hlt : Nat.blt d nt = true := by rfl) (hw : wantE ops nt env o = some true := by as_aux_lemma => kernel_rfl)
    (hx : evO env x = some (.pointer (some ⟨b, off, none⟩)) := by rfl) (hix : evO env ix = some (.int kk i) := by rfl)
    (ht : T t = some e := by rfl) (hde : e.d = .array n el := by rfl) (hg : T el = some g := by rfl) : OE ro P ops Q k nt ds env w Kp := by
  refine O_val ho hd hlt hw (fun a hf => ?_) h
  obtain ⟨dst, op, type, pos, after, guard⟩ := o
  simp only at hop
  subst hop
  have hu := run_und hT ht w
  rw [hde] at hu
  subst hi
  simp [execOp, Instr.indexAt, hf.ev hx, hf.ev hix, asIntOf, hu, run_size hT hg, hj, Addr.add_mid, Instr.sureAddr]
end Go.SL

/-! append, by slices whose rows are one's own. -/
namespace Go.SL
open Go Go.RowKit
variable {ro : Option Nat} {P : Program} {T : TT} {ops : Array Oper} {Q : Exit → Act → World → Prop} {w z : World} {ss : List HL} {nt : Nat} {ds : List Deferred} {env env' : Env} {Kp : Env → World → Prop} {k : Nat}
variable {α : Type} {enc : α → List Value} {size : Nat}

/-- What a slice that is read from holds: so many cells. -/
def Src (P : Program) (w : World) (size : Nat) (x : Value) (m : Nat) (news : List Value) : Prop :=
  (∃ q c, x = .slice q m c) ∧ ∀ w' : World, w'.heap = w.heap → (Builtin.firstCells size m x).run P w' = .ok news.toArray w'

theorem Src.nil {c : Nat} : Src P w size (.slice none 0 c) 0 [] := ⟨⟨_, _, rfl⟩, fun _ _ => rfl⟩

theorem Src.blk {b off m c : Nat} {cs : Array Value} {et : TypeId} {fr : Nat × Nat} (hb : w.heap[b]? = some (.cells cs et fr)) (hle : off + m * size ≤ cs.size) :
    Src P w size (.slice (some ⟨b, off, none⟩) m c) m ((cs.toList.drop off).take (m * size)) := by
  refine ⟨⟨_, _, rfl⟩, fun w' hw' => ?_⟩
  have hb' : w'.heap[b]? = some (.cells cs et fr) := by rw [hw']; exact hb
  have hl := run_loadCells_list (P := P) w' ⟨b, off, none⟩ ((cs.toList.drop off).take (m * size)) (fun j v hv => by
    rw [Addr.add_mid, cell_of_row w' b (off + j) cs et fr hb']
    rw [List.getElem?_take] at hv
    split at hv
    · rw [List.getElem?_drop] at hv; simpa using hv
    · simp at hv)
  have hlen : ((cs.toList.drop off).take (m * size)).length = m * size := by simp; omega
  rw [hlen] at hl
  exact hl

/-- A row of one's own, from element i on, m of them. -/
theorem Src.rows {b i m c : Nat} {l : List α} {sp : List Value} {et : TypeId} {fr : Nat × Nat} (hz : ∀ x, (enc x).length = size) (hb : w.heap[b]? = some (.cells (rows enc l sp) et fr)) (hle : i + m ≤ l.length) :
    Src P w size (.slice (some ⟨b, i * size, none⟩) m c) m (((l.drop i).take m).flatMap enc) := by
  have h := Src.blk (P := P) (size := size) (off := i * size) (m := m) (c := c) hb (by
    show i * size + m * size ≤ (l.flatMap enc ++ sp).toArray.size
    simp only [List.size_toArray, List.length_append, flat_len hz]
    rw [← Nat.add_mul]
    exact Nat.le_trans (Nat.mul_le_mul_right _ hle) (Nat.le_add_right _ _))
  have e : (((SL.rows enc l sp).toList.drop (i * size)).take (m * size)) = ((l.drop i).take m).flatMap enc := by
    show ((l.flatMap enc ++ sp).drop (i * size)).take (m * size) = _
    have h1 : l.flatMap enc = (l.take i).flatMap enc ++ (((l.drop i).take m).flatMap enc ++ ((l.drop i).drop m).flatMap enc) := by
      rw [← List.flatMap_append, List.take_append_drop, ← List.flatMap_append, List.take_append_drop]
    have hl1 : ((l.take i).flatMap enc).length = i * size := by rw [flat_len hz, List.length_take, Nat.min_eq_left (by omega)]
    have hl2 : (((l.drop i).take m).flatMap enc).length = m * size := by rw [flat_len hz, List.length_take, Nat.min_eq_left (by rw [List.length_drop]; omega)]
    rw [h1, List.append_assoc, List.drop_append, List.drop_eq_nil_of_le (by omega), List.nil_append, hl1, Nat.sub_self, List.drop_zero, List.append_assoc, List.take_append_of_le_length (by omega), ← hl2, List.take_length]
  rwa [e] at h

theorem set_perm {β : Type} (ss : List β) (i : Nat) (t s : β) (h : ss[i]? = some s) : (ss ++ [t]).Perm (ss.set i t ++ [s]) := by
  induction ss generalizing i with
  | nil => simp at h
  | cons x ss ih =>
    cases i with
    | zero =>
      simp only [List.getElem?_cons_zero, Option.some.injEq] at h
      subst h
      simp only [List.cons_append, List.set_cons_zero]
      exact ((List.perm_append_singleton t ss).cons x).trans ((List.Perm.swap t x ss).trans ((List.perm_append_singleton x ss).symm.cons t))
    | succ i =>
      simp only [List.getElem?_cons_succ] at h
      simp only [List.cons_append, List.set_cons_succ]
      exact (ih i h).cons x

theorem Own.repl {o : Obj} (h : Own z w (ss ++ [[(k, o)]])) (i : Nat) {s : HL} (hi : ss[i]? = some s) : Own z w (ss.set i [(k, o)]) :=
  (h.perm (set_perm ss i _ s hi)).left

theorem next_fits {need cap bytes : Nat} (h : cap < need) (hb : need * bytes ≤ 140737488355328) : Builtin.nextslicecap need cap * bytes ≤ 281474976710656 := by
  have hn : Builtin.nextslicecap need cap ≤ 2 * need := by
    unfold Builtin.nextslicecap
    split
    · omega
    · split
      · omega
      · have key : ∀ r c, c ≤ 2 * need → c < need ∨ r = 0 ∨ True → Builtin.growBy need r c ≤ 2 * need := by
          intro r
          induction r with
          | zero => intro c hc _; simpa [Builtin.growBy] using hc
          | succ r ih =>
            intro c hc _
            unfold Builtin.growBy
            split
            · exact hc
            · exact ih _ (by omega) (.inr (.inr trivial))
        exact key 4 cap (by omega) (.inr (.inr trivial))
  calc Builtin.nextslicecap need cap * bytes ≤ 2 * need * bytes := Nat.mul_le_mul_right _ hn
    _ = 2 * (need * bytes) := by rw [Nat.mul_assoc]
    _ ≤ 281474976710656 := by omega

theorem setRow_eq {b : Nat} {cs cs' : Array Value} {et : TypeId} (hb : w.heap[b]? = some (.cells cs et (0, 0))) : w.setRow b cs' = { w with heap := w.heap.setIfInBounds b (.cells cs' et (0, 0)) } := by
  have hlt : b < w.heap.size := (Array.getElem?_eq_some_iff.1 hb).1
  have he : w.heap[b] = .cells cs et (0, 0) := (Array.getElem?_eq_some_iff.1 hb).2
  unfold World.setRow
  congr 1
  apply Array.ext_getElem?
  intro i
  rw [Array.getElem?_modify, Array.getElem?_setIfInBounds]
  by_cases hi : b = i
  · subst hi
    simp [hlt, he]
  · simp [hi]

/-- append: what it gives, and what the row becomes. -/
theorem run_append_sl (hT : TOK P T) {t el : TypeId} {e g : TE} {zv : Value} (ht : T t = some e) (hde : e.d = .slice el) (hg : T el = some g) (hgz : g.zero = some zv) (hzc : zv.cells.size = g.size)
    (hz : ∀ x, (enc x).length = g.size) (h1 : ∀ x, ∀ u ∈ enc x, u.oneCell' = true) {p : Option Addr} {c : Nat} {l ys : List α} {s : HL} (hsl : Sl el g.size enc p c l s) {x : Value}
    (hsrc : Src P w g.size x ys.length (ys.flatMap enc)) (hO : Own z w ss) (i : Nat) (hi : ss[i]? = some s) (hb : (l.length + ys.length) * g.bytes ≤ 140737488355328) (hb0 : 0 < g.bytes) (ty : TypeId) :
    ∃ p' c' s' w', (Builtin.append_ #[t, t] ty #[.slice p l.length c, x]).run P w = .ok (.slice p' (l ++ ys).length c') w' ∧ Sl el g.size enc p' c' (l ++ ys) s' ∧ Own z w' (ss.set i s') := by
  have hu := run_und hT ht w
  rw [hde] at hu
  obtain ⟨⟨q, cq, rfl⟩, hread⟩ := hsrc
  have hrun : ∀ r, ((Builtin.append_ #[t, t] ty #[.slice p l.length c, .slice q ys.length cq]).run P w = r) = ((if l.length + ys.length ≤ c then do
      let new ← Builtin.firstCells g.size ys.length (.slice q ys.length cq)
      if let some a := p then storeCells (a.add (l.length * g.size)) new.toList
      pure (.slice p (l.length + ys.length) c)
    else do
      let newCap ← choose (.appendCap (l.length + ys.length) c el)
      askRoom (newCap * g.bytes)
      let old ← Builtin.firstCells g.size l.length (.slice p l.length c)
      let new ← Builtin.firstCells g.size ys.length (.slice q ys.length cq)
      let rest := Builtin.zeroCells zv.cells (newCap - (l.length + ys.length))
      pure (.slice (some (← newRow el (old ++ new ++ rest))) (l.length + ys.length) newCap) : Sem Value).run P w = r) := by
    intro r
    have hs := run_size hT hg
    obtain ⟨_, ti, hti, hti2, hti3, hti4⟩ := hT.ok el g hg
    have hfit : ¬ (l.length + ys.length ≤ c) → ¬ (281474976710656 < Builtin.nextslicecap (l.length + ys.length) c * g.bytes) := fun hn => Nat.not_lt.2 (next_fits (by omega) hb)
    have h63 : ¬ ((9223372036854775807 : Int) < ((l.length : Int) + (ys.length : Int))) := by
      have h2 : (l.length + ys.length) * 1 ≤ (l.length + ys.length) * g.bytes := Nat.mul_le_mul_left _ hb0
      omega
    by_cases hn : l.length + ys.length ≤ c
    · simp [Builtin.append_, hu, hs, Builtin.lenOf, hn]; exact Iff.rfl
    · simp [Builtin.append_, hu, hs, Builtin.lenOf, hn, typeInfo, hti, hti3, hfit hn, h63, zeroValue, hti4, hgz, Nat.pos_iff_ne_zero.1 hb0]; try exact Iff.rfl
  have happ : (l ++ ys).length = l.length + ys.length := List.length_append
  by_cases hroom : l.length + ys.length ≤ c
  · cases hsl with
    | nil =>
      have hy : ys = [] := by simpa using hroom
      subst hy
      refine ⟨none, 0, [], w, (hrun _).mpr ?_, .nil, ?_⟩
      · have h0 := hread w rfl
        simp only [List.length_nil, Nat.add_zero, Nat.le_refl, if_true, Sem.run_bind, Result.andThen] at h0 ⊢
        rw [h0]
        rfl
      · have : ss.set i [] = ss := by
          apply List.ext_getElem?
          intro j
          rw [List.getElem?_set]
          split
          · rename_i hj; subst hj; split <;> simp_all
          · rfl
        rw [this]; exact hO
    | row b sp c l hc hsp =>
      have hblk := hO.blk i hi
      have h0 := hread w rfl
      have hyl : (ys.flatMap enc).length = ys.length * g.size := flat_len hz ys
      have hll : (l.flatMap enc).length = l.length * g.size := flat_len hz l
      have hle : ys.length * g.size ≤ sp.length := Nat.le_trans (Nat.mul_le_mul_right _ (by omega)) hsp
      have hst := run_storeCells_at (P := P) b (l.length * g.size) el (ys.flatMap enc) 0 (rows enc l sp) w hblk (by
        simp only [rows, List.size_toArray, List.length_append, hll, hyl]; omega) (fun v hv => by
          obtain ⟨y, _, hy⟩ := List.mem_flatMap.1 hv
          exact h1 y v hy)
      have hcells : ((rows enc l sp).toList.take (l.length * g.size + 0) ++ ys.flatMap enc ++ (rows enc l sp).toList.drop (l.length * g.size + 0 + (ys.flatMap enc).length)).toArray = rows enc (l ++ ys) (sp.drop (ys.length * g.size)) := by
        unfold rows
        congr 1
        simp only [Nat.add_zero, List.flatMap_append, List.append_assoc]
        rw [List.take_append_of_le_length (by omega), ← hll, List.take_length, List.drop_append, List.drop_eq_nil_of_le (by omega), List.nil_append, hyl]
        congr 3
        omega
      rw [hcells, setRow_eq hblk] at hst
      refine ⟨_, c, _, _, (hrun _).mpr ?_, .row b (sp.drop (ys.length * g.size)) c (l ++ ys) (by omega) (by rw [List.length_drop, happ, Nat.sub_add_eq, Nat.sub_mul]; omega), hO.put i hi _⟩
      simp only [hroom, if_true, Sem.run_bind, h0, Result.andThen, Addr.add_mid, Nat.zero_add, hst, Sem.run_pure, happ]
  · have hcap : ∀ t, l.length + ys.length ≤ (Question.appendCap (l.length + ys.length) c el).cut t := fun t => by simp only [Question.cut]; omega
    let w1 : World := { w with drawn := w.drawn + 1 }
    let n := (Question.appendCap (l.length + ys.length) c el).cut (w.tape w.drawn (.appendCap (l.length + ys.length) c el))
    have hn : l.length + ys.length ≤ n := hcap _
    have hold : (Builtin.firstCells g.size l.length (.slice p l.length c)).run P w1 = .ok (l.flatMap enc).toArray w1 := by
      cases hsl with
      | nil => rfl
      | row b sp c l hc hsp =>
        have := (Src.rows (P := P) (w := w) (i := 0) (m := l.length) (c := c) hz (hO.blk i hi) (by omega)).2 w1 rfl
        simpa using this
    have hnew := hread w1 rfl
    have hrl : ((Builtin.zeroCells zv.cells (n - (l.length + ys.length))).toList).length = (n - (l ++ ys).length) * g.size := by
      simp [Builtin.zeroCells, hzc, happ]
    refine ⟨_, n, _, _, (hrun _).mpr ?_, .row w.heap.size (Builtin.zeroCells zv.cells (n - (l.length + ys.length))).toList n (l ++ ys) (by omega) (Nat.le_of_eq hrl.symm), Own.repl (k := w.heap.size) ((show Own z w1 ss from ⟨hO.os, hO.tape, hO.output, hO.size, hO.nd, hO.at_⟩).alloc _) i hi⟩
    have hch : (choose (.appendCap (l.length + ys.length) c el)).run P w = .ok n w1 := by
      simp [Question.forced, w1, n]
    simp only [hroom, if_false, Sem.run_bind, hch, Result.andThen, run_askRoom, hold, hnew, newRow, run_newObj, Sem.run_pure, happ]
    have hc2 : (l.flatMap enc).toArray ++ (ys.flatMap enc).toArray ++ Builtin.zeroCells zv.cells (n - (l.length + ys.length)) = rows enc (l ++ ys) (Builtin.zeroCells zv.cells (n - (l.length + ys.length))).toList := by
      apply Array.ext'
      simp [rows, List.flatMap_append]
    rw [hc2]

/-- append(xs, ys...): operation number k. The row is segment number i. -/
theorem O_append (hT : TOK P T) (hO : Own z w ss) (i : Nat) (hz : ∀ x, (enc x).length = size) (h1 : ∀ x, ∀ u ∈ enc x, u.oneCell' = true) {o : Oper} {d : Nat} {t el : TypeId} {e g : TE} {zv : Value} {x y : Operand} {p : Option Addr} {c n : Nat} {l ys : List α} {s : HL} {yv : Value}
    (hsl : Sl el size enc p c l s) (hn : n = l.length) (hsrc : ∀ w, Own z w ss → Src P w size yv ys.length (ys.flatMap enc)) (hb : (l.length + ys.length) * g.bytes ≤ 140737488355328)
    (h : ∀ p' c' s' w', Sl el size enc p' c' (l ++ ys) s' → Own z w' (ss.set i s') → Kp ((d, .slice p' (l ++ ys).length c') :: env) w')
    (ho : ops[k]? = some o := by rfl) (hop : o.op = .call { callee := .builtin .append, args := #[x, y], argTypes := #[t, t] } := by rfl) (hd : o.dst = some d := by rfl) (hlt : Nat.blt d nt = true := by rfl) (hw : wantE ops nt env o = some true := by as_aux_lemma => kernel_rfl)
    (hx : evO env x = some (.slice p n c) := by as_aux_lemma => kernel_rfl) (hy : evO env y = some yv := by as_aux_lemma => kernel_rfl) (hi : ss[i]? = some s := by rfl)
    (ht : T t = some e := by rfl) (hde : e.d = .slice el := by rfl) (hg : T el = some g := by rfl) (hgz : g.zero = some zv := by rfl) (hgs : g.size = size := by rfl) (hzc : Nat.beq zv.cells.size size = true := by rfl) (hb0 : Nat.blt 0 g.bytes = true := by rfl) :
    OE ro P ops Q k nt ds env w Kp := by
  subst hn
  subst hgs
  obtain ⟨p', c', s', w', hr, hs', hO'⟩ := run_append_sl hT ht hde hg hgz (Nat.eq_of_beq_eq_true hzc) hz h1 hsl (hsrc w hO) hO i hi hb (Nat.lt_of_succ_le (Nat.le_of_ble_eq_true hb0)) o.type
  refine O_val ho hd hlt hw (fun a hf => ?_) (h p' c' s' w' hs' hO')
  obtain ⟨dst, op, type, pos, after, guard⟩ := o
  simp only at hop hr
  subst hop
  simp only [execOp, resolve, List.map_toArray, List.map_cons, List.map_nil, hf.ev hx, hf.ev hy, Sem.run_bind, Sem.run_pure, Result.andThen, invoke, builtin, hr]
end Go.SL

/-! Shifts by what is not written out, quotients; panics. -/
namespace Go.SL
open Go Go.RowKit
variable {ro : Option Nat} {P : Program} {T : TT} {ops : Array Oper} {Q : Exit → Act → World → Prop} {w z : World} {ss : List HL} {nt : Nat} {ds : List Deferred} {env env' : Env} {Kp : Env → World → Prop} {k : Nat}

theorem O_bin {bo : BinOp} {ik jk : IntKind} {x y : Int} {v : Value} {o : Oper} {d : Nat} {t u : TypeId} {ox oy : Operand}
    (hr : ∀ w, (binOp bo t (.int ik x) (.int jk y)).run P w = .ok v w) (h : Kp ((d, v) :: env) w)
    (ho : ops[k]? = some o := by rfl) (hop : o.op = .binOp bo t ox oy u := by rfl) (hd : o.dst = some d := by rfl) (hlt : Nat.blt d nt = true := by rfl) (hw : wantE ops nt env o = some true := by as_aux_lemma => kernel_rfl)
    (hx : evO env ox = some (.int ik x) := by as_aux_lemma => kernel_rfl) (hy : evO env oy = some (.int jk y) := by as_aux_lemma => kernel_rfl) : OE ro P ops Q k nt ds env w Kp := by
  refine O_val ho hd hlt hw (fun a hf => ?_) h
  obtain ⟨dst, op, type, pos, after, guard⟩ := o
  simp only at hop
  subst hop
  have hg : ∀ w, (eqGuard bo t ox oy (.int ik x) (.int jk y)).run P w = .ok () w := fun w => by cases bo <;> rfl
  simp only [execOp, hf.ev hx, hf.ev hy, Sem.run_bind, hg, Result.andThen, hr, Sem.run_pure]

theorem bin_run {bo : BinOp} {ik jk : IntKind} {x y : Int} {v : Value} {o : Oper} {t u : TypeId} {ox oy : Operand} {a : Act} (hr : ∀ w, (binOp bo t (.int ik x) (.int jk y)).run P w = .ok v w) (hf : Fr nt ds env a)
    (hop : o.op = .binOp bo t ox oy u) (hx : evO env ox = some (.int ik x)) (hy : evO env oy = some (.int jk y)) (w : World) : (execOp a.eval o).run P w = .ok (.value v) w := by
  obtain ⟨dst, op, type, pos, after, guard⟩ := o
  simp only at hop
  subst hop
  have hg : ∀ w, (eqGuard bo t ox oy (.int ik x) (.int jk y)).run P w = .ok () w := fun w => by cases bo <;> rfl
  simp only [execOp, hf.ev hx, hf.ev hy, Sem.run_bind, hg, Result.andThen, hr, Sem.run_pure]

/-- Quiet, in a region that draws. -/
theorem M_bin {S : World → Prop} (hS : S w) {N i d : Nat} {r : List Stp} {bo : BinOp} {ik jk : IntKind} {x y : Int} {v : Value} {o : Oper} {t u : TypeId} {ox oy : Operand}
    (hr : ∀ w, (binOp bo t (.int ik x) (.int jk y)).run P w = .ok v w) (h : ME ro P ops Q S N r nt ds ((d, v) :: env) w)
    (ho : ops[i]? = some o := by rfl) (hop : o.op = .binOp bo t ox oy u := by rfl) (hd : o.dst = some d := by rfl) (hlt : Nat.blt d nt = true := by rfl) (hw : wantE ops nt env o = some true := by as_aux_lemma => kernel_rfl)
    (hx : evO env ox = some (.int ik x) := by as_aux_lemma => kernel_rfl) (hy : evO env oy = some (.int jk y) := by as_aux_lemma => kernel_rfl) : ME ro P ops Q S N (.q i :: r) nt ds env w := fun a hf =>
  ⟨hS, o, v, ho, .inl ⟨hf.want hw, fun w _ => bin_run hr hf hop hx hy w⟩, by rw [hd]; exact h _ (hf.put (Nat.lt_of_succ_le (Nat.le_of_ble_eq_true hlt)) v)⟩

theorem idx_run (hT : TOK P T) (j : Nat) {n c : Nat} {o : Oper} {t el : TypeId} {e g : TE} {x ix : Operand} {b off : Nat} {kk : IntKind} {i : Int} {a : Act} (hi : i = (j : Int)) (hj : j < n) (hf : Fr nt ds env a)
    (hop : o.op = .indexAddr t x ix) (hx : evO env x = some (.slice (some ⟨b, off, none⟩) n c)) (hix : evO env ix = some (.int kk i)) (ht : T t = some e) (hde : e.d = .slice el) (hg : T el = some g) (w : World) :
    (execOp a.eval o).run P w = .ok (.value (.pointer (some ⟨b, off + j * g.size, none⟩))) w := by
  obtain ⟨dst, op, type, pos, after, guard⟩ := o
  simp only at hop
  subst hop
  have hu := run_und hT ht w
  rw [hde] at hu
  subst hi
  simp [execOp, Instr.indexAt, hf.ev hx, hf.ev hix, asIntOf, hu, run_size hT hg, hj, Addr.add_mid]

theorem M_idx (hT : TOK P T) {S : World → Prop} (hS : S w) {N i' d : Nat} {r : List Stp} (j : Nat) {n c : Nat} {o : Oper} {t el : TypeId} {e g : TE} {x ix : Operand} {b off : Nat} {kk : IntKind} {i : Int} (hi : i = (j : Int)) (hj : j < n)
    (h : ME ro P ops Q S N r nt ds ((d, .pointer (some ⟨b, off + j * g.size, none⟩)) :: env) w)
    (ho : ops[i']? = some o := by rfl) (hop : o.op = .indexAddr t x ix := by rfl) (hd : o.dst = some d := by rfl) (hlt : Nat.blt d nt = true := by rfl) (hw : wantE ops nt env o = some true := by as_aux_lemma => kernel_rfl)
    (hx : evO env x = some (.slice (some ⟨b, off, none⟩) n c) := by rfl) (hix : evO env ix = some (.int kk i) := by rfl)
    (ht : T t = some e := by rfl) (hde : e.d = .slice el := by rfl) (hg : T el = some g := by rfl) : ME ro P ops Q S N (.q i' :: r) nt ds env w := fun a hf =>
  ⟨hS, o, _, ho, .inl ⟨hf.want hw, fun w _ => idx_run hT j hi hj hf hop hx hix ht hde hg w⟩, by rw [hd]; exact h _ (hf.put (Nat.lt_of_succ_le (Nat.le_of_ble_eq_true hlt)) _)⟩

theorem run_shl {t : TypeId} {ik jk : IntKind} {x y : Int} (hy : 0 ≤ y) (w : World) : (binOp .shl t (.int ik x) (.int jk y)).run P w = .ok (.int ik (ik.wrap (x * 2 ^ (min y.toNat ik.bits)))) w := by
  simp [binOp, Op.shift, Int.not_lt.2 hy]
theorem run_shr {t : TypeId} {ik jk : IntKind} {x y : Int} (hy : 0 ≤ y) (w : World) : (binOp .shr t (.int ik x) (.int jk y)).run P w = .ok (.int ik (x.fdiv (2 ^ (min y.toNat ik.bits)))) w := by
  simp [binOp, Op.shift, Int.not_lt.2 hy]
theorem run_quo {t : TypeId} {ik : IntKind} {x y : Int} (hy : y ≠ 0) (w : World) : (binOp .quo t (.int ik x) (.int ik y)).run P w = .ok (.int ik (ik.wrap (x.tdiv y))) w := by
  simp [binOp, Op.intDiv, hy]
theorem run_rem {t : TypeId} {ik : IntKind} {x y : Int} (hy : y ≠ 0) (w : World) : (binOp .rem t (.int ik x) (.int ik y)).run P w = .ok (.int ik (x.tmod y)) w := by
  simp [binOp, Op.intDiv, hy]

theorem wrap_u32_nonneg (n : Int) : 0 ≤ IntKind.u32.wrap n := by
  simp only [IntKind.wrap, IntKind.signed, IntKind.bits, Bool.false_and, Bool.false_eq_true, if_false]
  exact Int.emod_nonneg _ (by decide)
theorem wrap_u32_lt (n : Int) : IntKind.u32.wrap n < 4294967296 := by
  simp only [IntKind.wrap, IntKind.signed, IntKind.bits, Bool.false_and, Bool.false_eq_true, if_false]
  exact Int.emod_lt_of_pos _ (by decide)
theorem wrap_u32_of {n : Int} (h0 : 0 ≤ n) (h1 : n < 4294967296) : IntKind.u32.wrap n = n := by
  simp only [IntKind.wrap, IntKind.signed, IntKind.bits, Bool.false_and, Bool.false_eq_true, if_false]
  exact Int.emod_eq_of_lt h0 h1
theorem wrap_u8_of {n : Int} (h0 : 0 ≤ n) (h1 : n < 256) : IntKind.u8.wrap n = n := by
  simp only [IntKind.wrap, IntKind.signed, IntKind.bits, Bool.false_and, Bool.false_eq_true, if_false]
  exact Int.emod_eq_of_lt h0 h1
theorem wrap_u64_of {n : Int} (h0 : 0 ≤ n) (h1 : n < 18446744073709551616) : IntKind.u64.wrap n = n := by
  simp only [IntKind.wrap, IntKind.signed, IntKind.bits, Bool.false_and, Bool.false_eq_true, if_false]
  exact Int.emod_eq_of_lt h0 h1
theorem wrap_i64_of {n : Int} (h0 : -9223372036854775808 ≤ n) (h1 : n < 9223372036854775808) : IntKind.i64.wrap n = n := by
  simp only [IntKind.wrap, IntKind.signed, IntKind.bits, Bool.true_and]
  split
  · rename_i h; have := of_decide_eq_true h; simp only [Int.reducePow, Nat.reduceSub] at this ⊢; omega
  · rename_i h; have : ¬ (n % 2 ^ 64 ≥ (2 ^ (64 - 1) : Int)) := fun h' => h (decide_eq_true h'); simp only [Int.reducePow, Nat.reduceSub] at this ⊢; omega

theorem wrap_i32_of {n : Int} (h0 : 0 ≤ n) (h1 : n < 4294967296) : IntKind.i32.wrap n = if 2147483648 ≤ n then n - 4294967296 else n := by
  simp only [IntKind.wrap, IntKind.signed, IntKind.bits, Bool.true_and, Int.reducePow, Nat.reduceSub, Int.emod_eq_of_lt h0 h1]
  by_cases h : 2147483648 ≤ n
  · rw [if_pos (decide_eq_true h), if_pos h]
  · rw [if_neg (by simpa using h), if_neg h]

/-! ### What a panic's exit says does not hang on a slot -/
def PD (Q : Exit → Act → World → Prop) : Prop := ∀ c a w (d : Option Tmp) v, Q (.panic c) (a.put d v) w → Q (.panic c) a w
theorem pdT {Y : Act → World → Prop} (h : PD Q) : PD (Exit.then Y Q) := fun c a w d v hq => h c a w d v hq
theorem pdB {id : Nat} (h : PD Q) : PD (Exit.inBlock id Q) := fun c a w d v hq => h c a w d v hq
theorem pdF {fn : Func} {R : Ending → World → Prop} : PD (bodyPost P fn R) := fun c a w d v hq => by
  obtain ⟨h1, h2⟩ := hq
  exact ⟨by cases d <;> exact h1, h2⟩
end Go.SL

/-! Maps whose keys are whole numbers: made, filled with what is written out, asked. -/
namespace Go.SL
open Go Go.RowKit
variable {ro : Option Nat} {P : Program} {T : TT} {ops : Array Oper} {Q : Exit → Act → World → Prop} {w z : World} {ss : List HL} {nt : Nat} {ds : List Deferred} {env env' : Env} {Kp : Env → World → Prop} {k : Nat}

theorem run_getObj_map {r : Nat} {es : Array MapEntry} {c : Nat} (h : w.heap[r]? = some (.map es c)) : (getObj r).run P w = .ok (.map es c) w := by
  simp [getObj, Sem.run, h]
theorem run_setObj_map {r : Nat} {es : Array MapEntry} {c : Nat} (o : Obj) (h : w.heap[r]? = some (.map es c)) : (setObj r o).run P w = .ok () { w with heap := w.heap.setIfInBounds r o } := by
  simp [setObj, Sem.run, h]

theorem O_makeMap (hO : Own z w ss) {o : Oper} {d : Nat} {t : TypeId} (h : ∀ b w', Own z w' (ss ++ [[(b, .map #[] 0)]]) → Kp ((d, .map (some b)) :: env) w')
    (ho : ops[k]? = some o := by rfl) (hop : o.op = .makeMap t none := by rfl) (hd : o.dst = some d := by rfl) (hlt : Nat.blt d nt = true := by rfl)
    (hw : wantE ops nt env o = some true := by as_aux_lemma => kernel_rfl) : OE ro P ops Q k nt ds env w Kp := by
  have hr : (Instr.makeMap t none).run P w = .ok (.map (some w.heap.size)) { w with heap := w.heap.push (.map #[] 0) } := by
    simp [Instr.makeMap]
  refine O_val ho hd hlt hw (fun a _ => ?_) (h _ _ (hO.alloc _))
  obtain ⟨dst, op, type, pos, after, guard⟩ := o
  simp only at hop
  subst hop
  simp only [execOp, Option.map_none, Sem.run_bind, hr]
  rfl

theorem run_checkKey {t : TypeId} {kk jk : IntKind} {n : Int} {b : Bool} (hu : ∀ w, (underlying t).run P w = .ok (.int kk) w) (w : World) : (Instr.checkKey b 10000 t (.int jk n)).run P w = .ok () w := by
  rw [show (10000 : Nat) = 9999 + 1 from rfl]
  unfold Instr.checkKey
  rw [Sem.run_bind, hu w]
  rfl

/-- A store of a whole number's key that is not there yet. -/
theorem O_insert (hT : TOK P T) (hO : Own z w ss) (i : Nat) {o : Oper} {t kt vt : TypeId} {e g : TE} {m kx x : Operand} {b : Nat} {es : Array MapEntry} {c : Nat} {kk : IntKind} {n : Int} {v : Value}
    (h : ∀ w', Own z w' (ss.set i [(b, .map (es.push ⟨.int kk n, v, c⟩) (c + 1))]) → Kp env w')
    (ho : ops[k]? = some o := by rfl) (hop : o.op = .insert t m kx x := by rfl) (hd : o.dst = none := by rfl) (hw : wantE ops nt env o = some true := by as_aux_lemma => kernel_rfl)
    (hm : evO env m = some (.map (some b)) := by rfl) (hk : evO env kx = some (.int kk n) := by rfl) (hx : evO env x = some v := by rfl) (hb : ss[i]? = some [(b, .map es c)] := by rfl)
    (ht : T t = some e := by rfl) (hde : e.d = .map kt vt := by rfl) (hg : T kt = some g := by rfl) (hgd : g.d = .int kk := by rfl) (hf : Instr.findNow (.int kk) (.int kk n) es.toList 0 = some none := by as_aux_lemma => kernel_rfl) : OE ro P ops Q k nt ds env w Kp := fun K a hf' hK => by
  have hblk := hO.blk i hb
  have hu := run_und hT ht w
  rw [hde] at hu
  have hku : ∀ w, (underlying kt).run P w = .ok (.int kk) w := fun w => by rw [← hgd]; exact run_und hT hg w
  have hr : (execOp a.eval o).run P w = .ok .skip { w with heap := w.heap.setIfInBounds b (.map (es.push ⟨.int kk n, v, c⟩) (c + 1)) } := by
    obtain ⟨dst, op, type, pos, after, guard⟩ := o
    simp only at hop
    subst hop
    simp only [execOp, hf'.ev hm, hf'.ev hk, hf'.ev hx, Instr.mapUpdate, Sem.run_bind, hu, Result.andThen, run_getObj_map hblk, run_checkKey hku, Instr.findKey, hku, hf, Sem.run_pure, run_setObj_map _ hblk]
  refine wpOp_skip ho (hf'.want hw) hr ?_
  rw [hd]
  exact hK _ _ _ (h _ (hO.put i hb _)) hf'

/-! ### Asking -/
def lkE : List MapEntry → Int → Option Value
  | [], _ => none
  | e :: es, n => match e.key with
    | .int _ j => bif n == j then some e.val else lkE es n
    | _ => none

def keysI (kk : IntKind) (es : List MapEntry) : Bool := es.all fun e => match e.key with | .int k _ => decide (k = kk) | _ => false

theorem findNow_lk {kk : IntKind} {n : Int} : ∀ (es : List MapEntry) (i : Nat), keysI kk es = true → ∃ r, Instr.findNow (.int kk) (.int kk n) es i = some r ∧ r.map (·.2) = lkE es n
  | [], i, _ => ⟨none, rfl, rfl⟩
  | e :: es, i, h => by
    simp only [keysI, List.all_cons, Bool.and_eq_true] at h
    obtain ⟨h1, h2⟩ := h
    obtain ⟨key, val, born⟩ := e
    split at h1
    · rename_i k j heq
      simp only at heq
      subst heq
      have hk : k = kk := by simpa using h1
      subst hk
      obtain ⟨r, hr1, hr2⟩ := findNow_lk (n := n) es (i + 1) h2
      cases hb : n == j with
      | true => exact ⟨some (i, val), by simp [Instr.findNow, Instr.sameNow, hb], by simp [lkE, hb]⟩
      | false => exact ⟨r, by simp [Instr.findNow, Instr.sameNow, hb, hr1], by simp [lkE, hb, hr2]⟩
    · simp at h1

theorem lookup_run (hT : TOK P T) {o : Oper} {t kt vt : TypeId} {e g gv : TE} {m kx : Operand} {b : Nat} {es : Array MapEntry} {c : Nat} {kk : IntKind} {n : Int} {zv u : Value} {ok : Bool} {a : Act}
    (hf : Fr nt ds env a) (hu : (if ok then Value.tuple #[(lkE es.toList n).getD zv, .bool (lkE es.toList n).isSome] else (lkE es.toList n).getD zv) = u) (hblk : w.heap[b]? = some (.map es c))
    (hop : o.op = .lookup t m kx ok) (hm : evO env m = some (.map (some b))) (hk : evO env kx = some (.int kk n)) (ht : T t = some e) (hde : e.d = .map kt vt) (hg : T kt = some g) (hgd : g.d = .int kk) (hgv : T vt = some gv) (hz : gv.zero = some zv)
    (hks : keysI kk es.toList = true) : (execOp a.eval o).run P w = .ok (.value u) w := by
  have hun := run_und hT ht w
  rw [hde] at hun
  have hku : ∀ w, (underlying kt).run P w = .ok (.int kk) w := fun w => by rw [← hgd]; exact run_und hT hg w
  obtain ⟨dst, op, type, pos, after, guard⟩ := o
  simp only at hop
  subst hop
  obtain ⟨r, hr1, hr2⟩ := findNow_lk (n := n) es.toList 0 hks
  subst hu
  simp only [execOp, hf.ev hm, hf.ev hk, Instr.lookup, Sem.run_bind, hun, Result.andThen, run_getObj_map hblk, Sem.run_pure, run_checkKey hku, Instr.findKey, hku, hr1]
  cases r with
  | none =>
    simp only [Option.map_none] at hr2
    simp only [← hr2, Sem.run_bind, run_zero hT hgv hz, Result.andThen, Sem.run_pure, Option.getD_none, Option.isSome_none]
  | some p =>
    obtain ⟨i, v⟩ := p
    simp only [Option.map_some] at hr2
    simp only [← hr2, Option.getD_some, Option.isSome_some]
    rfl

theorem O_lookup (hT : TOK P T) (hO : Own z w ss) (i : Nat) {o : Oper} {d : Nat} {t kt vt : TypeId} {e g gv : TE} {m kx : Operand} {b : Nat} {es : Array MapEntry} {c : Nat} {kk : IntKind} {n : Int} {zv : Value} {ok : Bool} (u : Value)
    (hu : (if ok then Value.tuple #[(lkE es.toList n).getD zv, .bool (lkE es.toList n).isSome] else (lkE es.toList n).getD zv) = u) (h : Kp ((d, u) :: env) w)
    (ho : ops[k]? = some o := by rfl) (hop : o.op = .lookup t m kx ok := by rfl) (hd : o.dst = some d := by rfl) (hlt : Nat.blt d nt = true := by rfl) (hw : wantE ops nt env o = some true := by as_aux_lemma => kernel_rfl)
    (hm : evO env m = some (.map (some b)) := by rfl) (hk : evO env kx = some (.int kk n) := by rfl) (hb : ss[i]? = some [(b, .map es c)] := by rfl)
    (ht : T t = some e := by rfl) (hde : e.d = .map kt vt := by rfl) (hg : T kt = some g := by rfl) (hgd : g.d = .int kk := by rfl) (hgv : T vt = some gv := by rfl) (hz : gv.zero = some zv := by rfl)
    (hks : keysI kk es.toList = true := by as_aux_lemma => kernel_rfl) : OE ro P ops Q k nt ds env w Kp :=
  O_val ho hd hlt hw (fun _ hf => lookup_run hT hf hu (hO.blk i hb) hop hm hk ht hde hg hgd hgv hz hks) h
end Go.SL
