import Derived.Test.YtkfkfpgnapncaaaGreatDoorSlG
/-! The operations that act, over frames of which only what matters is known. -/
namespace Go.SL
open Go Go.RowKit
variable {ro : Option Nat} {P : Program} {T : TT} {ops : Array Oper} {Q : Exit → Act → World → Prop} {w z : World} {ss : List HL} {nt : Nat} {ds : List Deferred} {env env' : Env} {Kp : Env → World → Prop} {k : Nat}

/-- Operation number k; behind it Kp. -/
def OE (ro : Option Nat) (P : Program) (ops : Array Oper) (Q : Exit → Act → World → Prop) (k nt : Nat) (ds : List Deferred) (env : Env) (w : World) (Kp : Env → World → Prop) : Prop :=
  ∀ (K : Act → World → Prop) (a : Act), Fr nt ds env a → (∀ env' w' a', Kp env' w' → Fr nt ds env' a' → K a' w') → opW ro P ops Q k K a w

theorem SO {n : Nat} (h : OE ro P ops Q k nt ds env w (fun e w' => SE ro P ops Q (k + 1) n nt ds e w')) : SE ro P ops Q k (n + 1) nt ds env w := fun a hf =>
  h _ a hf fun _ _ a' hk hf' => hk a' hf'
theorem MO {S : World → Prop} {N i : Nat} {r : List Stp} (h : OE ro P ops Q i nt ds env w (fun e w' => (i < N → S w') ∧ ME ro P ops Q S N r nt ds e w')) : ME ro P ops Q S N (.e i :: r) nt ds env w := fun a hf =>
  h _ a hf fun _ _ a' hk hf' => ⟨hk.1, hk.2 a' hf'⟩

theorem O_val {o : Oper} {d : Nat} {v : Value} {w' : World} (ho : ops[k]? = some o) (hd : o.dst = some d) (hlt : Nat.blt d nt = true) (hw : wantE ops nt env o = some true)
    (hr : ∀ a, Fr nt ds env a → (execOp a.eval o).run P w = .ok (.value v) w') (h : Kp ((d, v) :: env) w') : OE ro P ops Q k nt ds env w Kp := fun K a hf hK =>
  wpOp_val ho (hf.want hw) (hr a hf) (by rw [hd]; exact hK _ _ _ h (hf.put (Nat.lt_of_succ_le (Nat.le_of_ble_eq_true hlt)) v))

theorem O_pass {o : Oper} {d : Nat} (h : Kp ((d, undef) :: env) w) (ho : ops[k]? = some o := by rfl) (hd : o.dst = some d := by rfl) (hlt : Nat.blt d nt = true := by rfl) (hw : wantE ops nt env o = some false := by as_aux_lemma => kernel_rfl) : OE ro P ops Q k nt ds env w Kp := fun K a hf hK =>
  wpOp_pass ho (hf.want hw) (by rw [hd]; exact hK _ _ _ h (hf.put (Nat.lt_of_succ_le (Nat.le_of_ble_eq_true hlt)) undef))
theorem O_pass0 {o : Oper} (h : Kp env w) (ho : ops[k]? = some o := by rfl) (hd : o.dst = none := by rfl) (hw : wantE ops nt env o = some false := by as_aux_lemma => kernel_rfl) : OE ro P ops Q k nt ds env w Kp := fun K a hf hK =>
  wpOp_pass ho (hf.want hw) (by rw [hd]; exact hK _ _ _ h hf)

theorem O_pure (hT : TOK P T) (v : Value) {o : Oper} {d : Nat} (h : Kp ((d, v) :: env) w) (ho : ops[k]? = some o := by rfl) (hd : o.dst = some d := by rfl) (hlt : Nat.blt d nt = true := by rfl) (hw : wantE ops nt env o = some true := by as_aux_lemma => kernel_rfl) (hi : allIn env o.op = true := by as_aux_lemma => kernel_rfl) (hv : pv T (evD env) o.op = some v := by as_aux_lemma => kernel_rfl) : OE ro P ops Q k nt ds env w Kp := O_val ho hd hlt hw (fun _ hf => pv_run hT hf hi hv w) h

theorem O_load (hT : TOK P T) (hO : Own z w ss) (i : Nat) {o : Oper} {d : Nat} {t : TypeId} {x : Operand} {b off : Nat} {cs : Array Value} {et : TypeId} {v : Value} (h : Kp ((d, v) :: env) w) (ho : ops[k]? = some o := by rfl) (hop : o.op = .load t x := by rfl) (hd : o.dst = some d := by rfl) (hlt : Nat.blt d nt = true := by rfl) (hw : wantE ops nt env o = some true := by as_aux_lemma => kernel_rfl) (hx : evO env x = some (.pointer (some ⟨b, off, none⟩)) := by as_aux_lemma => kernel_rfl) (hb : ss[i]? = some [(b, .cells cs et (0, 0))] := by rfl) (hv : ldP T t cs off = some v := by as_aux_lemma => kernel_rfl) : OE ro P ops Q k nt ds env w Kp :=
  O_val ho hd hlt hw (fun _ hf => run_load_op hT hop (hf.ev hx) (hO.blk i hb) hv) h

/-- From a block of a segment that is not looked into. -/
theorem O_loadM (hT : TOK P T) (hO : Own z w ss) (i : Nat) {s : HL} {o : Oper} {d : Nat} {t : TypeId} {x : Operand} {b off : Nat} {cs : Array Value} {et : TypeId} {v : Value} (hm : (b, .cells cs et (0, 0)) ∈ s) (hv : ldP T t cs off = some v) (h : Kp ((d, v) :: env) w) (hb : ss[i]? = some s := by rfl) (ho : ops[k]? = some o := by rfl) (hop : o.op = .load t x := by rfl) (hd : o.dst = some d := by rfl) (hlt : Nat.blt d nt = true := by rfl) (hw : wantE ops nt env o = some true := by as_aux_lemma => kernel_rfl) (hx : evO env x = some (.pointer (some ⟨b, off, none⟩)) := by as_aux_lemma => kernel_rfl) : OE ro P ops Q k nt ds env w Kp :=
  O_val ho hd hlt hw (fun _ hf => run_load_op hT hop (hf.ev hx) (hO.get i hb hm) hv) h

/-- What a block's cells become. -/
def wr (T : TT) (t : TypeId) (cs : Array Value) (off : Nat) (v : Value) : Array Value := (stP T t cs off v).getD #[]

theorem O_store (hT : TOK P T) (hO : Own z w ss) (i : Nat) {o : Oper} {t : TypeId} {x y : Operand} {b off : Nat} {v : Value} {cs cs' : Array Value} {et : TypeId} (h : ∀ w', Own z w' (ss.set i [(b, .cells cs' et (0, 0))]) → Kp env w') (ho : ops[k]? = some o := by rfl) (hop : o.op = .store t x y := by rfl) (hd : o.dst = none := by rfl) (hw : wantE ops nt env o = some true := by as_aux_lemma => kernel_rfl) (hx : evO env x = some (.pointer (some ⟨b, off, none⟩)) := by as_aux_lemma => kernel_rfl) (hy : evO env y = some v := by rfl) (hb : ss[i]? = some [(b, .cells cs et (0, 0))] := by rfl) (hv : stP T t cs off v = some cs' := by as_aux_lemma => kernel_rfl) : OE ro P ops Q k nt ds env w Kp := fun K a hf hK => by
  refine wpOp_skip ho (hf.want hw) (run_store_op hT hop (hf.ev hx) (hO.blk i hb) (by rw [hf.ev hy]; exact hv)) ?_
  rw [hd]
  exact hK _ _ _ (h _ (hO.put i hb _)) hf

theorem O_alloc (hT : TOK P T) (hO : Own z w ss) {o : Oper} {d : Nat} {t : TypeId} {e : TE} {v : Value} (h : ∀ b w', Own z w' (ss ++ [[(b, .cells v.cells t (0, 0))]]) → Kp ((d, .pointer (some ⟨b, 0, none⟩)) :: env) w') (ho : ops[k]? = some o := by rfl) (hop : o.op = .alloc t := by rfl) (hd : o.dst = some d := by rfl) (hlt : Nat.blt d nt = true := by rfl) (hw : wantE ops nt env o = some true := by as_aux_lemma => kernel_rfl) (ht : T t = some e := by rfl) (hz : e.zero = some v := by rfl) : OE ro P ops Q k nt ds env w Kp := by
  have hr : (Instr.alloc t true (.tuple #[])).run P w = .ok (.pointer (some ⟨w.heap.size, 0, none⟩)) { w with heap := w.heap.push (.cells v.cells t (0, 0)) } := by
    simp [Instr.alloc, run_zero hT ht hz, newVar, newRow]
  refine O_val ho hd hlt hw (fun a _ => ?_) (h _ _ (hO.alloc _))
  obtain ⟨dst, op, type, pos, after, guard⟩ := o
  simp only at hop
  subst hop
  simp only [execOp, Sem.run_bind, hr]
  rfl

theorem O_box (hO : Own z w ss) {o : Oper} {d : Nat} {t : TypeId} {x : Operand} {v : Value} (h : ∀ b w', Own z w' (ss ++ [[(b, .cells v.cells t (0, 0))]]) → Kp ((d, .pointer (some ⟨b, 0, none⟩)) :: env) w') (ho : ops[k]? = some o := by rfl) (hop : o.op = .box t x := by rfl) (hd : o.dst = some d := by rfl) (hlt : Nat.blt d nt = true := by rfl) (hw : wantE ops nt env o = some true := by as_aux_lemma => kernel_rfl) (hx : evO env x = some v := by rfl) : OE ro P ops Q k nt ds env w Kp := by
  have hr : (Instr.box t v).run P w = .ok (.pointer (some ⟨w.heap.size, 0, none⟩)) { w with heap := w.heap.push (.cells v.cells t (0, 0)) } := by
    simp [Instr.box, newVar, newRow]
  refine O_val ho hd hlt hw (fun a hf => ?_) (h _ _ (hO.alloc _))
  obtain ⟨dst, op, type, pos, after, guard⟩ := o
  simp only at hop
  subst hop
  simp only [execOp, Sem.run_bind, hf.ev hx, hr]
  rfl

def evPs (env : Env) : List (Nat × Operand) → Option (List (Nat × Value))
  | [] => some []
  | (i, x) :: r => match evO env x, evPs env r with
    | some v, some l => some ((i, v) :: l)
    | _, _ => none
theorem Fr.evPs {a : Act} (hf : Fr nt ds env a) : ∀ (ps : List (Nat × Operand)) (l : List (Nat × Value)), SL.evPs env ps = some l → ps.map (fun (i, x) => (i, a.eval x)) = l
  | [], l, h => by simp only [SL.evPs, Option.some.injEq] at h; subst h; rfl
  | (i, x) :: r, l, h => by
    simp only [SL.evPs] at h
    split at h
    · rename_i v l' hv hl
      simp only [Option.some.injEq] at h
      subst h
      simp [hf.ev hv, hf.evPs r l' hl]
    · simp at h

theorem O_buildSlice (hT : TOK P T) (hO : Own z w ss) (cs : Array Value) {o : Oper} {d : Nat} {t el : TypeId} {e : TE} {len : Nat} {parts : Array (Nat × Operand)} {l : List (Nat × Value)} (h : ∀ b w', Own z w' (ss ++ [[(b, .cells cs el (0, 0))]]) → Kp ((d, .slice (some ⟨b, 0, none⟩) len len) :: env) w') (ho : ops[k]? = some o := by rfl) (hop : o.op = .buildSlice t len parts := by rfl) (hd : o.dst = some d := by rfl) (hlt : Nat.blt d nt = true := by rfl) (hw : wantE ops nt env o = some true := by as_aux_lemma => kernel_rfl) (ht : T t = some e := by rfl) (hde : e.d = .slice el := by rfl) (hl : Nat.beq len 0 = false := by rfl) (hs : (T el).any (fun g => !Nat.beq g.size 0) = true := by as_aux_lemma => kernel_rfl) (hps : evPs env parts.toList = some l := by rfl) (hc : bsP T el len l = some cs := by as_aux_lemma => kernel_rfl) : OE ro P ops Q k nt ds env w Kp := fun K a hf hK => by
  refine op_buildSlice hT hO cs ho hop (hf.want hw) ht hde (by rintro rfl; simp at hl) (by
    cases hg : T el with
    | none => simp [hg] at hs
    | some g =>
      simp only [hg, Option.any_some] at hs ⊢
      cases hb : Nat.beq g.size 0 with
      | true => simp [hb] at hs
      | false => simp; intro h0; rw [h0] at hb; simp at hb) (by
    rw [← hc]
    congr 1
    have := hf.evPs parts.toList l hps
    simpa using this) ?_
  intro b w' hw'
  rw [hd]
  exact hK _ _ _ (h b w' hw') (hf.put (Nat.lt_of_succ_le (Nat.le_of_ble_eq_true hlt)) _)

/-! ### Calls -/
def evL (env : Env) : List Operand → Option (List Value)
  | [] => some []
  | x :: r => match evO env x, evL env r with
    | some v, some l => some (v :: l)
    | _, _ => none
theorem Fr.evL {a : Act} (hf : Fr nt ds env a) : ∀ (xs : List Operand) (l : List Value), SL.evL env xs = some l → xs.map a.eval = l
  | [], l, h => by simp only [SL.evL, Option.some.injEq] at h; subst h; rfl
  | x :: r, l, h => by
    simp only [SL.evL] at h
    split at h
    · rename_i v l' hv hl
      simp only [Option.some.injEq] at h
      subst h
      simp [hf.ev hv, hf.evL r l' hl]
    · simp at h

/-- Which function an operation calls, with which arguments. -/
def callee (env : Env) (c : Call) : Option (FuncId × Array Value) :=
  match c.callee with
  | .value f => match evO env f with
    | some (.func (.func g) fs cs) => match evL env c.args.toList with
      | some l => some (g, fs ++ l.toArray ++ cs)
      | none => none
    | _ => none
  | _ => none

theorem callee_run {o : Oper} {c : Call} {f : FuncId} {args : Array Value} {a : Act} (hf : Fr nt ds env a) (hop : o.op = .call c) (hc : callee env c = some (f, args))
    (hcall : ∀ (args : Array Value) (w : World), (callFunc f args).run P w = .ok (.enter f args) w) : (execOp a.eval o).run P w = .ok (.enter f args) w := by
  obtain ⟨dst, op, type, pos, after, guard⟩ := o
  simp only at hop
  subst hop
  unfold callee at hc
  split at hc
  · rename_i x hx
    split at hc
    · rename_i g fs cs hv
      split at hc
      · rename_i l hl
        simp only [Option.some.injEq, Prod.mk.injEq] at hc
        obtain ⟨rfl, rfl⟩ := hc
        have e1 : a.eval x = .func (.func g) fs cs := hf.ev hv
        have e2 : c.args.map a.eval = l.toArray := by
          have := hf.evL c.args.toList l hl
          apply Array.ext'
          simpa using this
        simp only [execOp, resolve, hx, e1, e2, Deferred.ofValue]
        exact hcall _ _
      · simp at hc
    · simp at hc
  · simp at hc

theorem O_call {f : FuncId} {args : Array Value} {R : Value → World → Prop} (hcall : ∀ (args : Array Value) (w : World), (callFunc f args).run P w = .ok (.enter f args) w) (hc : Ret P f args w R) {o : Oper} {d : Nat} {c : Call} (h : ∀ v w', R v w' → Kp ((d, v) :: env) w') (ho : ops[k]? = some o := by rfl) (hop : o.op = .call c := by rfl) (hd : o.dst = some d := by rfl) (hlt : Nat.blt d nt = true := by rfl) (hw : wantE ops nt env o = some true := by as_aux_lemma => kernel_rfl) (hcl : callee env c = some (f, args) := by as_aux_lemma => kernel_rfl) : OE ro P ops Q k nt ds env w Kp := fun K a hf hK =>
  op_call ho (hf.want hw) (callee_run hf hop hcl hcall) hc fun v w' hR => by rw [hd]; exact hK _ _ _ (h v w' hR) (hf.put (Nat.lt_of_succ_le (Nat.le_of_ble_eq_true hlt)) v)

/-- A call that may panic. -/
theorem O_callP {f : FuncId} {args : Array Value} {R : Ending → World → Prop} (hcall : ∀ (args : Array Value) (w : World), (callFunc f args).run P w = .ok (.enter f args) w) (hc : Calls P f args w R) {o : Oper} {d : Nat} {c : Call} (hp : ∀ ch w', R (.panicked ch) w' → QE Q (.panic ch) nt ds env w') (hout : ∀ w', ¬ R .outgrown w') (h : ∀ v w', R (.returned v) w' → Kp ((d, v) :: env) w') (ho : ops[k]? = some o := by rfl) (hop : o.op = .call c := by rfl) (hd : o.dst = some d := by rfl) (hlt : Nat.blt d nt = true := by rfl) (hw : wantE ops nt env o = some true := by as_aux_lemma => kernel_rfl) (hcl : callee env c = some (f, args) := by as_aux_lemma => kernel_rfl) : OE ro P ops Q k nt ds env w Kp := fun K a hf hK =>
  op_callP ho (hf.want hw) (callee_run hf hop hcl hcall) hc (fun v w' hR => by rw [hd]; exact hK _ _ _ (h v w' hR) (hf.put (Nat.lt_of_succ_le (Nat.le_of_ble_eq_true hlt)) v)) (fun ch w' hR => hp ch w' hR a hf) hout
end Go.SL
