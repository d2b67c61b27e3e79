import Derived.Test.YtkfkfpgnapncaaaGreatDoorSlL
/-! Maps whose keys are whole numbers: made, filled with what is written out, asked. -/
namespace Go.SL
open Go Go.RowKit
variable {ro : Option Nat} {P : Program} {T : TT} {ops : Array Oper} {Q : Exit → Act → World → Prop} {w z : World} {ss : List HL} {nt : Nat} {ds : List Deferred} {env env' : Env} {Kp : Env → World → Prop} {k : Nat}

theorem run_getObj_map {r : Nat} {es : Array MapEntry} {c : Nat} (h : w.heap[r]? = some (.map es c)) : (getObj r).run P w = .ok (.map es c) w := by
  simp [getObj, Sem.run, h]
theorem run_setObj_map {r : Nat} {es : Array MapEntry} {c : Nat} (o : Obj) (h : w.heap[r]? = some (.map es c)) : (setObj r o).run P w = .ok () { w with heap := w.heap.setIfInBounds r o } := by
  simp [setObj, Sem.run, h]

theorem O_makeMap (hO : Own z w ss) {o : Oper} {d : Nat} {t : TypeId} (h : ∀ b w', Own z w' (ss ++ [[(b, .map #[] 0)]]) → Kp ((d, .map (some b)) :: env) w')
    (ho : ops[k]? = some o := by rfl) (hop : o.op = .makeMap t none := by rfl) (hd : o.dst = some d := by rfl) (hlt : Nat.blt d nt = true := by rfl)
    (hw : wantE ops nt env o = some true := by as_aux_lemma => kernel_rfl) : OE ro P ops Q k nt ds env w Kp := by
  have hr : (Instr.makeMap t none).run P w = .ok (.map (some w.heap.size)) { w with heap := w.heap.push (.map #[] 0) } := by
    simp [Instr.makeMap]
  refine O_val ho hd hlt hw (fun a _ => ?_) (h _ _ (hO.alloc _))
  obtain ⟨dst, op, type, pos, after, guard⟩ := o
  simp only at hop
  subst hop
  simp only [execOp, Option.map_none, Sem.run_bind, hr]
  rfl

theorem run_checkKey {t : TypeId} {kk jk : IntKind} {n : Int} {b : Bool} (hu : ∀ w, (underlying t).run P w = .ok (.int kk) w) (w : World) : (Instr.checkKey b 10000 t (.int jk n)).run P w = .ok () w := by
  rw [show (10000 : Nat) = 9999 + 1 from rfl]
  unfold Instr.checkKey
  rw [Sem.run_bind, hu w]
  rfl

/-- A store of a whole number's key that is not there yet. -/
theorem O_insert (hT : TOK P T) (hO : Own z w ss) (i : Nat) {o : Oper} {t kt vt : TypeId} {e g : TE} {m kx x : Operand} {b : Nat} {es : Array MapEntry} {c : Nat} {kk : IntKind} {n : Int} {v : Value}
    (h : ∀ w', Own z w' (ss.set i [(b, .map (es.push ⟨.int kk n, v, c⟩) (c + 1))]) → Kp env w')
    (ho : ops[k]? = some o := by rfl) (hop : o.op = .insert t m kx x := by rfl) (hd : o.dst = none := by rfl) (hw : wantE ops nt env o = some true := by as_aux_lemma => kernel_rfl)
    (hm : evO env m = some (.map (some b)) := by rfl) (hk : evO env kx = some (.int kk n) := by rfl) (hx : evO env x = some v := by rfl) (hb : ss[i]? = some [(b, .map es c)] := by rfl)
    (ht : T t = some e := by rfl) (hde : e.d = .map kt vt := by rfl) (hg : T kt = some g := by rfl) (hgd : g.d = .int kk := by rfl) (hf : Instr.findNow (.int kk) (.int kk n) es.toList 0 = some none := by as_aux_lemma => kernel_rfl) : OE ro P ops Q k nt ds env w Kp := fun K a hf' hK => by
  have hblk := hO.blk i hb
  have hu := run_und hT ht w
  rw [hde] at hu
  have hku : ∀ w, (underlying kt).run P w = .ok (.int kk) w := fun w => by rw [← hgd]; exact run_und hT hg w
  have hr : (execOp a.eval o).run P w = .ok .skip { w with heap := w.heap.setIfInBounds b (.map (es.push ⟨.int kk n, v, c⟩) (c + 1)) } := by
    obtain ⟨dst, op, type, pos, after, guard⟩ := o
    simp only at hop
    subst hop
    simp only [execOp, hf'.ev hm, hf'.ev hk, hf'.ev hx, Instr.mapUpdate, Sem.run_bind, hu, Result.andThen, run_getObj_map hblk, run_checkKey hku, Instr.findKey, hku, hf, Sem.run_pure, run_setObj_map _ hblk]
  refine wpOp_skip ho (hf'.want hw) hr ?_
  rw [hd]
  exact hK _ _ _ (h _ (hO.put i hb _)) hf'

/-! ### Asking -/
def lkE : List MapEntry → Int → Option Value
  | [], _ => none
  | e :: es, n => match e.key with
    | .int _ j => bif n == j then some e.val else lkE es n
    | _ => none

def keysI (kk : IntKind) (es : List MapEntry) : Bool := es.all fun e => match e.key with | .int k _ => decide (k = kk) | _ => false

theorem findNow_lk {kk : IntKind} {n : Int} : ∀ (es : List MapEntry) (i : Nat), keysI kk es = true → ∃ r, Instr.findNow (.int kk) (.int kk n) es i = some r ∧ r.map (·.2) = lkE es n
  | [], i, _ => ⟨none, rfl, rfl⟩
  | e :: es, i, h => by
    simp only [keysI, List.all_cons, Bool.and_eq_true] at h
    obtain ⟨h1, h2⟩ := h
    obtain ⟨key, val, born⟩ := e
    split at h1
    · rename_i k j heq
      simp only at heq
      subst heq
      have hk : k = kk := by simpa using h1
      subst hk
      obtain ⟨r, hr1, hr2⟩ := findNow_lk (n := n) es (i + 1) h2
      cases hb : n == j with
      | true => exact ⟨some (i, val), by simp [Instr.findNow, Instr.sameNow, hb], by simp [lkE, hb]⟩
      | false => exact ⟨r, by simp [Instr.findNow, Instr.sameNow, hb, hr1], by simp [lkE, hb, hr2]⟩
    · simp at h1

theorem lookup_run (hT : TOK P T) {o : Oper} {t kt vt : TypeId} {e g gv : TE} {m kx : Operand} {b : Nat} {es : Array MapEntry} {c : Nat} {kk : IntKind} {n : Int} {zv u : Value} {ok : Bool} {a : Act}
    (hf : Fr nt ds env a) (hu : (if ok then Value.tuple #[(lkE es.toList n).getD zv, .bool (lkE es.toList n).isSome] else (lkE es.toList n).getD zv) = u) (hblk : w.heap[b]? = some (.map es c))
    (hop : o.op = .lookup t m kx ok) (hm : evO env m = some (.map (some b))) (hk : evO env kx = some (.int kk n)) (ht : T t = some e) (hde : e.d = .map kt vt) (hg : T kt = some g) (hgd : g.d = .int kk) (hgv : T vt = some gv) (hz : gv.zero = some zv)
    (hks : keysI kk es.toList = true) : (execOp a.eval o).run P w = .ok (.value u) w := by
  have hun := run_und hT ht w
  rw [hde] at hun
  have hku : ∀ w, (underlying kt).run P w = .ok (.int kk) w := fun w => by rw [← hgd]; exact run_und hT hg w
  obtain ⟨dst, op, type, pos, after, guard⟩ := o
  simp only at hop
  subst hop
  obtain ⟨r, hr1, hr2⟩ := findNow_lk (n := n) es.toList 0 hks
  subst hu
  simp only [execOp, hf.ev hm, hf.ev hk, Instr.lookup, Sem.run_bind, hun, Result.andThen, run_getObj_map hblk, Sem.run_pure, run_checkKey hku, Instr.findKey, hku, hr1]
  cases r with
  | none =>
    simp only [Option.map_none] at hr2
    simp only [← hr2, Sem.run_bind, run_zero hT hgv hz, Result.andThen, Sem.run_pure, Option.getD_none, Option.isSome_none]
  | some p =>
    obtain ⟨i, v⟩ := p
    simp only [Option.map_some] at hr2
    simp only [← hr2, Option.getD_some, Option.isSome_some]
    rfl

theorem O_lookup (hT : TOK P T) (hO : Own z w ss) (i : Nat) {o : Oper} {d : Nat} {t kt vt : TypeId} {e g gv : TE} {m kx : Operand} {b : Nat} {es : Array MapEntry} {c : Nat} {kk : IntKind} {n : Int} {zv : Value} {ok : Bool} (u : Value)
    (hu : (if ok then Value.tuple #[(lkE es.toList n).getD zv, .bool (lkE es.toList n).isSome] else (lkE es.toList n).getD zv) = u) (h : Kp ((d, u) :: env) w)
    (ho : ops[k]? = some o := by rfl) (hop : o.op = .lookup t m kx ok := by rfl) (hd : o.dst = some d := by rfl) (hlt : Nat.blt d nt = true := by rfl) (hw : wantE ops nt env o = some true := by as_aux_lemma => kernel_rfl)
    (hm : evO env m = some (.map (some b)) := by rfl) (hk : evO env kx = some (.int kk n) := by rfl) (hb : ss[i]? = some [(b, .map es c)] := by rfl)
    (ht : T t = some e := by rfl) (hde : e.d = .map kt vt := by rfl) (hg : T kt = some g := by rfl) (hgd : g.d = .int kk := by rfl) (hgv : T vt = some gv := by rfl) (hz : gv.zero = some zv := by rfl)
    (hks : keysI kk es.toList = true := by as_aux_lemma => kernel_rfl) : OE ro P ops Q k nt ds env w Kp :=
  O_val ho hd hlt hw (fun _ hf => lookup_run hT hf hu (hO.blk i hb) hop hm hk ht hde hg hgd hgv hz hks) h
end Go.SL
