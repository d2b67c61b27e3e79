import Derived.Test.YtkfkfpgnapncaaaGreatDoorSlC
namespace Go.SL
open Go Go.RowKit
variable {r : Option Nat} {P : Program} {T : TT} {ops : Array Oper} {Q : Exit → Act → World → Prop} {a a' : Act} {w z : World} {ss : List HL} {K : Act → World → Prop}

/-! ### Many that only compute -/
def wantB (ops : Array Oper) (a : Act) (o : Oper) : Bool := Region.wanted o (yielded ops a.tmps)

/-- In a round, too, what is no defer is carried out as everywhere. -/
theorem semAt_run {o : Oper} {ρ : Operand → Value} (hd : ∀ c, o.op ≠ .defer c) : o.semAt (FW r).round ρ = execOp ρ o := Oper.semAt_eq _ _ _ hd

theorem not_defer_val {o : Oper} {ρ : Operand → Value} {v : Value} {w w' : World} (h : (execOp ρ o).run P w = .ok (.value v) w') : ∀ c, o.op ≠ .defer c := by
  intro c hc
  obtain ⟨dst, op, type, pos, after, guard⟩ := o
  simp only at hc
  subst hc
  simp only [execOp, Sem.run_bind] at h
  cases hr : (resolve ρ c type).run P w with
  | ok d w1 => rw [hr] at h; simp [Result.andThen] at h
  | halt x w1 => rw [hr] at h; simp [Result.andThen] at h
theorem not_defer_skip {o : Oper} {ρ : Operand → Value} {w w' : World} (h : (execOp ρ o).run P w = .ok .skip w') : ∀ c, o.op ≠ .defer c := by
  intro c hc
  obtain ⟨dst, op, type, pos, after, guard⟩ := o
  simp only at hc
  subst hc
  simp only [execOp, Sem.run_bind] at h
  cases hr : (resolve ρ c type).run P w with
  | ok d w1 => rw [hr] at h; simp [Result.andThen] at h
  | halt x w1 => rw [hr] at h; simp [Result.andThen] at h
theorem not_defer_enter {o : Oper} {ρ : Operand → Value} {f : FuncId} {args : Array Value} {w w' : World} (h : (execOp ρ o).run P w = .ok (.enter f args) w') : ∀ c, o.op ≠ .defer c := by
  intro c hc
  obtain ⟨dst, op, type, pos, after, guard⟩ := o
  simp only at hc
  subst hc
  simp only [execOp, Sem.run_bind] at h
  cases hr : (resolve ρ c type).run P w with
  | ok d w1 => rw [hr] at h; simp [Result.andThen] at h
  | halt x w1 => rw [hr] at h; simp [Result.andThen] at h

theorem wpOp_val {k : Nat} {o : Oper} {v : Value} {w' : World} (ho : ops[k]? = some o) (hw : wantB ops a o = true) (hr : (execOp a.eval o).run P w = .ok (.value v) w') (h : K (a.put o.dst v) w') :
    opW r P ops Q k K a w := by
  unfold opW
  simp only [ho]
  unfold wantB at hw
  rw [if_pos hw]
  exact ⟨fun _ _ => trivial, by rw [semAt_run (not_defer_val hr), hr]; exact h⟩
theorem wpOp_skip {k : Nat} {o : Oper} {w' : World} (ho : ops[k]? = some o) (hw : wantB ops a o = true) (hr : (execOp a.eval o).run P w = .ok .skip w') (h : K (a.put o.dst undef) w') :
    opW r P ops Q k K a w := by
  unfold opW
  simp only [ho]
  unfold wantB at hw
  rw [if_pos hw]
  exact ⟨fun _ _ => trivial, by rw [semAt_run (not_defer_skip hr), hr]; exact h⟩
theorem wpOp_pass {k : Nat} {o : Oper} (ho : ops[k]? = some o) (hw : wantB ops a o = false) (h : K (a.put o.dst undef) w) : opW r P ops Q k K a w := by
  unfold opW
  simp only [ho]
  unfold wantB at hw
  rw [if_neg (by simp [hw])]
  exact h

/-! ### Reading memory -/
def ldP (T : TT) (t : TypeId) (cs : Array Value) (off : Nat) : Option Value :=
  match T t with
  | none => none
  | some e => match aggD e.d with
    | true => match decide (off + e.size ≤ cs.size) with | true => some (.agg (cs.extract off (off + e.size))) | false => none
    | false => cs[off]?

theorem run_load_blk (hT : TOK P T) {t : TypeId} {b off : Nat} {cs : Array Value} {et : TypeId} {fr : Nat × Nat} {v : Value} (hb : w.heap[b]? = some (.cells cs et fr)) (h : ldP T t cs off = some v) :
    (loadVar t ⟨b, off, none⟩).run P w = .ok v w := by
  unfold ldP at h
  cases ht : T t with
  | none => simp [ht] at h
  | some e =>
    simp only [ht] at h
    unfold loadVar
    rw [Sem.run_bind, run_isAgg hT ht w]
    simp only [Result.andThen]
    cases ha : aggD e.d with
    | true =>
      simp only [ha] at h
      by_cases hle : off + e.size ≤ cs.size
      · simp only [hle, decide_true, Option.some.injEq] at h
        subst h
        have hl := run_loadCells_list (P := P) w ⟨b, off, none⟩ (cs.extract off (off + e.size)).toList (fun j v hv => by
          rw [Addr.add_mid, cell_of_row w b (off + j) cs et fr hb]
          rw [Array.getElem?_toList, Array.getElem?_extract] at hv
          split at hv
          · exact hv
          · simp at hv)
        have hlen : (cs.extract off (off + e.size)).toList.length = e.size := by simp; omega
        rw [hlen, Array.toArray_toList] at hl
        simp only [if_true, Sem.run_bind, run_size hT ht w, Result.andThen, hl, Sem.run_pure]
      · simp [hle] at h
    | false =>
      simp only [ha] at h
      have hc : w.cell? ⟨b, off, none⟩ = some v := by rw [cell_of_row w b off cs et fr hb, h]
      simp [hc]

theorem run_load_op (hT : TOK P T) {o : Oper} {ρ : Operand → Value} {t : TypeId} {x : Operand} {b off : Nat} {cs : Array Value} {et : TypeId} {fr : Nat × Nat} {v : Value}
    (ho : o.op = .load t x) (hx : ρ x = .pointer (some ⟨b, off, none⟩)) (hb : w.heap[b]? = some (.cells cs et fr)) (h : ldP T t cs off = some v) :
    (execOp ρ o).run P w = .ok (.value v) w := by
  obtain ⟨dst, op, type, pos, after, guard⟩ := o
  simp only at ho
  subst ho
  simp [execOp, hx, Instr.loadAt, Instr.sureAddr, run_load_blk hT hb h]

/-- A load: number k, the block is segment number i. -/
theorem op_load (hT : TOK P T) (hO : Own z w ss) {k : Nat} {o : Oper} (i : Nat) {t : TypeId} {x : Operand} {b off : Nat} {cs : Array Value} {et : TypeId} {v : Value}
    (ho : ops[k]? = some o) (hop : o.op = .load t x) (hw : wantB ops a o = true) (hx : a.eval x = .pointer (some ⟨b, off, none⟩))
    (hb : ss[i]? = some [(b, .cells cs et (0, 0))]) (hv : ldP T t cs off = some v) (h : K (a.put o.dst v) w) : opW r P ops Q k K a w :=
  wpOp_val ho hw (run_load_op hT hop hx (hO.blk i hb) hv) h

/-! ### Writing memory -/
def one (v : Value) : Bool := v.oneCell'

def stP (T : TT) (t : TypeId) (cs : Array Value) (off : Nat) (v : Value) : Option (Array Value) :=
  match T t with
  | none => none
  | some e => match decide (v.cells.size = e.size) with
    | false => none
    | true => match decide (off + e.size ≤ cs.size) with
      | false => none
      | true => match v.cells.toList.all one with
        | true => some (cs.toList.take off ++ v.cells.toList ++ cs.toList.drop (off + e.size)).toArray
        | false => none

theorem run_store_blk (hT : TOK P T) {t : TypeId} {b off : Nat} {cs cs' : Array Value} {et : TypeId} {v : Value} (hb : w.heap[b]? = some (.cells cs et (0, 0))) (h : stP T t cs off v = some cs') :
    (storeVar t ⟨b, off, none⟩ v).run P w = .ok () { w with heap := w.heap.setIfInBounds b (.cells cs' et (0, 0)) } := by
  unfold stP at h
  cases ht : T t with
  | none => simp [ht] at h
  | some e =>
    simp only [ht] at h
    by_cases h1 : v.cells.size = e.size
    · simp only [h1, decide_true] at h
      by_cases h2 : off + e.size ≤ cs.size
      · simp only [h2, decide_true] at h
        cases h3 : v.cells.toList.all one with
        | false => simp [h3] at h
        | true =>
          simp only [h3, Option.some.injEq] at h
          subst h
          have h3' : ∀ u ∈ v.cells.toList, u.oneCell' = true := List.all_eq_true.1 h3
          have := run_storeCells_at (P := P) b off et v.cells.toList 0 cs w hb (by simp; omega) h3'
          unfold storeVar
          rw [Sem.run_bind, run_size hT ht w]
          simp only [Result.andThen, h1, ne_eq, not_true, if_false]
          rw [this]
          congr 1
          have hlt : b < w.heap.size := (Array.getElem?_eq_some_iff.1 hb).1
          have he : w.heap[b] = .cells cs et (0, 0) := (Array.getElem?_eq_some_iff.1 hb).2
          unfold World.setRow
          congr 1
          apply Array.ext_getElem?
          intro i
          rw [Array.getElem?_modify, Array.getElem?_setIfInBounds]
          by_cases hi : b = i
          · subst hi
            simp [hlt, he, h1]
          · simp [hi]
      · simp [h2] at h
    · simp [h1] at h

theorem run_store_op (hT : TOK P T) {o : Oper} {ρ : Operand → Value} {t : TypeId} {x y : Operand} {b off : Nat} {cs cs' : Array Value} {et : TypeId}
    (ho : o.op = .store t x y) (hx : ρ x = .pointer (some ⟨b, off, none⟩)) (hb : w.heap[b]? = some (.cells cs et (0, 0))) (h : stP T t cs off (ρ y) = some cs') :
    (execOp ρ o).run P w = .ok .skip { w with heap := w.heap.setIfInBounds b (.cells cs' et (0, 0)) } := by
  obtain ⟨dst, op, type, pos, after, guard⟩ := o
  simp only at ho
  subst ho
  simp [execOp, hx, Instr.storeAt, Instr.sureAddr, run_store_blk hT hb h]

/-- A store: number k, the block is segment number i. -/
theorem op_store (hT : TOK P T) (hO : Own z w ss) {k : Nat} {o : Oper} (i : Nat) {t : TypeId} {x y : Operand} {b off : Nat} {cs : Array Value} {et : TypeId} (cs' : Array Value)
    (ho : ops[k]? = some o) (hop : o.op = .store t x y) (hd : o.dst = none) (hw : wantB ops a o = true) (hx : a.eval x = .pointer (some ⟨b, off, none⟩))
    (hb : ss[i]? = some [(b, .cells cs et (0, 0))]) (hv : stP T t cs off (a.eval y) = some cs')
    (h : ∀ w', Own z w' (ss.set i [(b, .cells cs' et (0, 0))]) → K a w') : opW r P ops Q k K a w := by
  refine wpOp_skip ho hw (run_store_op hT hop hx (hO.blk i hb) hv) ?_
  rw [hd]
  exact h _ (hO.put i hb _)

/-! ### New memory -/
theorem op_alloc (hT : TOK P T) (hO : Own z w ss) {k : Nat} {o : Oper} {t : TypeId} {e : TE} {v : Value} (ho : ops[k]? = some o) (hop : o.op = .alloc t) (hw : wantB ops a o = true)
    (ht : T t = some e) (hz : e.zero = some v) (h : ∀ b w', Own z w' (ss ++ [[(b, .cells v.cells t (0, 0))]]) → K (a.put o.dst (.pointer (some ⟨b, 0, none⟩))) w') : opW r P ops Q k K a w := by
  have hr : (execOp a.eval o).run P w = .ok (.value (.pointer (some ⟨w.heap.size, 0, none⟩))) { w with heap := w.heap.push (.cells v.cells t (0, 0)) } := by
    obtain ⟨dst, op, type, pos, after, guard⟩ := o
    simp only at hop
    subst hop
    simp [execOp, Instr.alloc, run_zero hT ht hz, newVar, newRow]
  exact wpOp_val ho hw hr (h _ _ (hO.alloc _))

theorem op_box (hO : Own z w ss) {k : Nat} {o : Oper} {t : TypeId} {x : Operand} {v : Value} (ho : ops[k]? = some o) (hop : o.op = .box t x) (hw : wantB ops a o = true)
    (hx : a.eval x = v) (h : ∀ b w', Own z w' (ss ++ [[(b, .cells v.cells t (0, 0))]]) → K (a.put o.dst (.pointer (some ⟨b, 0, none⟩))) w') : opW r P ops Q k K a w := by
  have hr : (execOp a.eval o).run P w = .ok (.value (.pointer (some ⟨w.heap.size, 0, none⟩))) { w with heap := w.heap.push (.cells v.cells t (0, 0)) } := by
    obtain ⟨dst, op, type, pos, after, guard⟩ := o
    simp only at hop
    subst hop
    simp [execOp, Instr.box, hx, newVar, newRow]
  exact wpOp_val ho hw hr (h _ _ (hO.alloc _))

def bsP (T : TT) (el : TypeId) (len : Nat) (parts : List (Nat × Value)) : Option (Array Value) :=
  match T el with
  | none => none
  | some g => match g.zero with
    | none => none
    | some zv => match Nat.ble (len * g.size) (2 ^ 24) with
      | true => Instr.fill (fun i => some (i * g.size, g.size)) ((Array.range (len * g.size)).map (zv.cells[· % zv.cells.size]!)) parts
      | false => none

theorem op_buildSlice (hT : TOK P T) (hO : Own z w ss) {k : Nat} {o : Oper} {t el : TypeId} {e : TE} {len : Nat} {parts : Array (Nat × Operand)} (cs : Array Value) (ho : ops[k]? = some o) (hop : o.op = .buildSlice t len parts) (hw : wantB ops a o = true)
    (ht : T t = some e) (hd : e.d = .slice el) (hl : len ≠ 0) (hs : (T el).any (·.size ≠ 0) = true) (hc : bsP T el len (parts.map fun (i, x) => (i, a.eval x)).toList = some cs)
    (h : ∀ b w', Own z w' (ss ++ [[(b, .cells cs el (0, 0))]]) → K (a.put o.dst (.slice (some ⟨b, 0, none⟩) len len)) w') : opW r P ops Q k K a w := by
  have hr : (execOp a.eval o).run P w = .ok (.value (.slice (some ⟨w.heap.size, 0, none⟩) len len)) { w with heap := w.heap.push (.cells cs el (0, 0)) } := by
    obtain ⟨dst, op, type, pos, after, guard⟩ := o
    simp only at hop
    subst hop
    have hu := run_und hT ht w
    rw [hd] at hu
    unfold bsP at hc
    cases hg : T el with
    | none => simp [hg] at hc
    | some g =>
      simp only [hg] at hc
      cases hz : g.zero with
      | none => simp [hz] at hc
      | some zv =>
        simp only [hz] at hc
        cases hb : Nat.ble (len * g.size) (2 ^ 24) with
        | false => simp [hb] at hc
        | true =>
          simp only [hb] at hc
          have hle : ¬ len * g.size > 2 ^ 24 := by have := Nat.le_of_ble_eq_true hb; omega
          have hne : ¬ len * g.size = 0 := by
            simp [hg] at hs
            intro h0
            rcases Nat.mul_eq_zero.1 h0 with h0 | h0
            · exact hl h0
            · exact hs h0
          simp only [execOp, Instr.buildSlice, Sem.run_bind, hu, Result.andThen, run_size hT hg w, hle, if_false, hne, run_zero hT hg hz w, Sem.run_pure]
          rw [hc]
          simp [newRow]
  exact wpOp_val ho hw hr (h _ _ (hO.alloc _))

/-! ### Calls -/
/-- The call returns. -/
def Ret (P : Program) (f : FuncId) (args : Array Value) (w : World) (R : Value → World → Prop) : Prop :=
  Calls P f args w fun e w' => ∃ v, e = .returned v ∧ R v w'

theorem Ret.mono {f : FuncId} {args : Array Value} {R R' : Value → World → Prop} (h : Ret P f args w R) (hr : ∀ v w', R v w' → R' v w') : Ret P f args w R' :=
  Calls.mono h fun _ _ ⟨v, he, hv⟩ => ⟨v, he, hr v _ hv⟩

theorem calls_in {f : FuncId} {args : Array Value} {R : Ending → World → Prop} (h : Calls P f args w R) : CallsIn (FW r) 0 P f args w R := callsIn_wide.2 h

theorem op_call {k : Nat} {o : Oper} {f : FuncId} {args : Array Value} {R : Value → World → Prop} (ho : ops[k]? = some o) (hw : wantB ops a o = true)
    (hr : (execOp a.eval o).run P w = .ok (.enter f args) w) (hc : Ret P f args w R) (h : ∀ v w', R v w' → K (a.put o.dst v) w') : opW r P ops Q k K a w := by
  unfold opW
  simp only [ho]
  unfold wantB at hw
  rw [if_pos hw]
  refine ⟨fun _ _ => trivial, ?_⟩
  rw [semAt_run (not_defer_enter hr), hr]
  exact ⟨(fun h => by cases h), calls_in (Calls.mono hc fun e w' ⟨v, he, hv⟩ => by subst he; exact h v w' hv)⟩

theorem op_callP {k : Nat} {o : Oper} {f : FuncId} {args : Array Value} {R : Ending → World → Prop} (ho : ops[k]? = some o) (hw : wantB ops a o = true)
    (hr : (execOp a.eval o).run P w = .ok (.enter f args) w) (hc : Calls P f args w R) (h : ∀ v w', R (.returned v) w' → K (a.put o.dst v) w')
    (hp : ∀ c w', R (.panicked c) w' → Q (.panic c) a w') (hout : ∀ w', ¬ R .outgrown w') : opW r P ops Q k K a w := by
  unfold opW
  simp only [ho]
  unfold wantB at hw
  rw [if_pos hw]
  refine ⟨fun _ _ => trivial, ?_⟩
  rw [semAt_run (not_defer_enter hr), hr]
  refine ⟨(fun h => by cases h), calls_in (Calls.mono hc fun e w' hv => ?_)⟩
  cases e with
  | returned v => exact h v w' hv
  | panicked c => exact hp c w' hv
  | outgrown => exact absurd hv (hout w')
end Go.SL
