import Derived.Test.YtkfkfpgnapncaaaGreatDoorSlJ
/-! append, by slices whose rows are one's own. -/
namespace Go.SL
open Go Go.RowKit
variable {ro : Option Nat} {P : Program} {T : TT} {ops : Array Oper} {Q : Exit → Act → World → Prop} {w z : World} {ss : List HL} {nt : Nat} {ds : List Deferred} {env env' : Env} {Kp : Env → World → Prop} {k : Nat}
variable {α : Type} {enc : α → List Value} {size : Nat}

/-- What a slice that is read from holds: so many cells. -/
def Src (P : Program) (w : World) (size : Nat) (x : Value) (m : Nat) (news : List Value) : Prop :=
  (∃ q c, x = .slice q m c) ∧ ∀ w' : World, w'.heap = w.heap → (Builtin.firstCells size m x).run P w' = .ok news.toArray w'

theorem Src.nil {c : Nat} : Src P w size (.slice none 0 c) 0 [] := ⟨⟨_, _, rfl⟩, fun _ _ => rfl⟩

theorem Src.blk {b off m c : Nat} {cs : Array Value} {et : TypeId} {fr : Nat × Nat} (hb : w.heap[b]? = some (.cells cs et fr)) (hle : off + m * size ≤ cs.size) :
    Src P w size (.slice (some ⟨b, off, none⟩) m c) m ((cs.toList.drop off).take (m * size)) := by
  refine ⟨⟨_, _, rfl⟩, fun w' hw' => ?_⟩
  have hb' : w'.heap[b]? = some (.cells cs et fr) := by rw [hw']; exact hb
  have hl := run_loadCells_list (P := P) w' ⟨b, off, none⟩ ((cs.toList.drop off).take (m * size)) (fun j v hv => by
    rw [Addr.add_mid, cell_of_row w' b (off + j) cs et fr hb']
    rw [List.getElem?_take] at hv
    split at hv
    · rw [List.getElem?_drop] at hv; simpa using hv
    · simp at hv)
  have hlen : ((cs.toList.drop off).take (m * size)).length = m * size := by simp; omega
  rw [hlen] at hl
  exact hl

/-- A row of one's own, from element i on, m of them. -/
theorem Src.rows {b i m c : Nat} {l : List α} {sp : List Value} {et : TypeId} {fr : Nat × Nat} (hz : ∀ x, (enc x).length = size) (hb : w.heap[b]? = some (.cells (rows enc l sp) et fr)) (hle : i + m ≤ l.length) :
    Src P w size (.slice (some ⟨b, i * size, none⟩) m c) m (((l.drop i).take m).flatMap enc) := by
  have h := Src.blk (P := P) (size := size) (off := i * size) (m := m) (c := c) hb (by
    show i * size + m * size ≤ (l.flatMap enc ++ sp).toArray.size
    simp only [List.size_toArray, List.length_append, flat_len hz]
    rw [← Nat.add_mul]
    exact Nat.le_trans (Nat.mul_le_mul_right _ hle) (Nat.le_add_right _ _))
  have e : (((SL.rows enc l sp).toList.drop (i * size)).take (m * size)) = ((l.drop i).take m).flatMap enc := by
    show ((l.flatMap enc ++ sp).drop (i * size)).take (m * size) = _
    have h1 : l.flatMap enc = (l.take i).flatMap enc ++ (((l.drop i).take m).flatMap enc ++ ((l.drop i).drop m).flatMap enc) := by
      rw [← List.flatMap_append, List.take_append_drop, ← List.flatMap_append, List.take_append_drop]
    have hl1 : ((l.take i).flatMap enc).length = i * size := by rw [flat_len hz, List.length_take, Nat.min_eq_left (by omega)]
    have hl2 : (((l.drop i).take m).flatMap enc).length = m * size := by rw [flat_len hz, List.length_take, Nat.min_eq_left (by rw [List.length_drop]; omega)]
    rw [h1, List.append_assoc, List.drop_append, List.drop_eq_nil_of_le (by omega), List.nil_append, hl1, Nat.sub_self, List.drop_zero, List.append_assoc, List.take_append_of_le_length (by omega), ← hl2, List.take_length]
  rwa [e] at h

theorem set_perm {β : Type} (ss : List β) (i : Nat) (t s : β) (h : ss[i]? = some s) : (ss ++ [t]).Perm (ss.set i t ++ [s]) := by
  induction ss generalizing i with
  | nil => simp at h
  | cons x ss ih =>
    cases i with
    | zero =>
      simp only [List.getElem?_cons_zero, Option.some.injEq] at h
      subst h
      simp only [List.cons_append, List.set_cons_zero]
      exact ((List.perm_append_singleton t ss).cons x).trans ((List.Perm.swap t x ss).trans ((List.perm_append_singleton x ss).symm.cons t))
    | succ i =>
      simp only [List.getElem?_cons_succ] at h
      simp only [List.cons_append, List.set_cons_succ]
      exact (ih i h).cons x

theorem Own.repl {o : Obj} (h : Own z w (ss ++ [[(k, o)]])) (i : Nat) {s : HL} (hi : ss[i]? = some s) : Own z w (ss.set i [(k, o)]) :=
  (h.perm (set_perm ss i _ s hi)).left

theorem next_fits {need cap bytes : Nat} (h : cap < need) (hb : need * bytes ≤ 140737488355328) : Builtin.nextslicecap need cap * bytes ≤ 281474976710656 := by
  have hn : Builtin.nextslicecap need cap ≤ 2 * need := by
    unfold Builtin.nextslicecap
    split
    · omega
    · split
      · omega
      · have key : ∀ r c, c ≤ 2 * need → c < need ∨ r = 0 ∨ True → Builtin.growBy need r c ≤ 2 * need := by
          intro r
          induction r with
          | zero => intro c hc _; simpa [Builtin.growBy] using hc
          | succ r ih =>
            intro c hc _
            unfold Builtin.growBy
            split
            · exact hc
            · exact ih _ (by omega) (.inr (.inr trivial))
        exact key 4 cap (by omega) (.inr (.inr trivial))
  calc Builtin.nextslicecap need cap * bytes ≤ 2 * need * bytes := Nat.mul_le_mul_right _ hn
    _ = 2 * (need * bytes) := by rw [Nat.mul_assoc]
    _ ≤ 281474976710656 := by omega

theorem setRow_eq {b : Nat} {cs cs' : Array Value} {et : TypeId} (hb : w.heap[b]? = some (.cells cs et (0, 0))) : w.setRow b cs' = { w with heap := w.heap.setIfInBounds b (.cells cs' et (0, 0)) } := by
  have hlt : b < w.heap.size := (Array.getElem?_eq_some_iff.1 hb).1
  have he : w.heap[b] = .cells cs et (0, 0) := (Array.getElem?_eq_some_iff.1 hb).2
  unfold World.setRow
  congr 1
  apply Array.ext_getElem?
  intro i
  rw [Array.getElem?_modify, Array.getElem?_setIfInBounds]
  by_cases hi : b = i
  · subst hi
    simp [hlt, he]
  · simp [hi]

/-- append: what it gives, and what the row becomes. -/
theorem run_append_sl (hT : TOK P T) {t el : TypeId} {e g : TE} {zv : Value} (ht : T t = some e) (hde : e.d = .slice el) (hg : T el = some g) (hgz : g.zero = some zv) (hzc : zv.cells.size = g.size)
    (hz : ∀ x, (enc x).length = g.size) (h1 : ∀ x, ∀ u ∈ enc x, u.oneCell' = true) {p : Option Addr} {c : Nat} {l ys : List α} {s : HL} (hsl : Sl el g.size enc p c l s) {x : Value}
    (hsrc : Src P w g.size x ys.length (ys.flatMap enc)) (hO : Own z w ss) (i : Nat) (hi : ss[i]? = some s) (hb : (l.length + ys.length) * g.bytes ≤ 140737488355328) (hb0 : 0 < g.bytes) (ty : TypeId) :
    ∃ p' c' s' w', (Builtin.append_ #[t, t] ty #[.slice p l.length c, x]).run P w = .ok (.slice p' (l ++ ys).length c') w' ∧ Sl el g.size enc p' c' (l ++ ys) s' ∧ Own z w' (ss.set i s') := by
  have hu := run_und hT ht w
  rw [hde] at hu
  obtain ⟨⟨q, cq, rfl⟩, hread⟩ := hsrc
  have hrun : ∀ r, ((Builtin.append_ #[t, t] ty #[.slice p l.length c, .slice q ys.length cq]).run P w = r) = ((if l.length + ys.length ≤ c then do
      let new ← Builtin.firstCells g.size ys.length (.slice q ys.length cq)
      if let some a := p then storeCells (a.add (l.length * g.size)) new.toList
      pure (.slice p (l.length + ys.length) c)
    else do
      let newCap ← choose (.appendCap (l.length + ys.length) c el)
      askRoom (newCap * g.bytes)
      let old ← Builtin.firstCells g.size l.length (.slice p l.length c)
      let new ← Builtin.firstCells g.size ys.length (.slice q ys.length cq)
      let rest := Builtin.zeroCells zv.cells (newCap - (l.length + ys.length))
      pure (.slice (some (← newRow el (old ++ new ++ rest))) (l.length + ys.length) newCap) : Sem Value).run P w = r) := by
    intro r
    have hs := run_size hT hg
    obtain ⟨_, ti, hti, hti2, hti3, hti4⟩ := hT.ok el g hg
    have hfit : ¬ (l.length + ys.length ≤ c) → ¬ (281474976710656 < Builtin.nextslicecap (l.length + ys.length) c * g.bytes) := fun hn => Nat.not_lt.2 (next_fits (by omega) hb)
    have h63 : ¬ ((9223372036854775807 : Int) < ((l.length : Int) + (ys.length : Int))) := by
      have h2 : (l.length + ys.length) * 1 ≤ (l.length + ys.length) * g.bytes := Nat.mul_le_mul_left _ hb0
      omega
    by_cases hn : l.length + ys.length ≤ c
    · simp [Builtin.append_, hu, hs, Builtin.lenOf, hn]; exact Iff.rfl
    · simp [Builtin.append_, hu, hs, Builtin.lenOf, hn, typeInfo, hti, hti3, hfit hn, h63, zeroValue, hti4, hgz, Nat.pos_iff_ne_zero.1 hb0]; try exact Iff.rfl
  have happ : (l ++ ys).length = l.length + ys.length := List.length_append
  by_cases hroom : l.length + ys.length ≤ c
  · cases hsl with
    | nil =>
      have hy : ys = [] := by simpa using hroom
      subst hy
      refine ⟨none, 0, [], w, (hrun _).mpr ?_, .nil, ?_⟩
      · have h0 := hread w rfl
        simp only [List.length_nil, Nat.add_zero, Nat.le_refl, if_true, Sem.run_bind, Result.andThen] at h0 ⊢
        rw [h0]
        rfl
      · have : ss.set i [] = ss := by
          apply List.ext_getElem?
          intro j
          rw [List.getElem?_set]
          split
          · rename_i hj; subst hj; split <;> simp_all
          · rfl
        rw [this]; exact hO
    | row b sp c l hc hsp =>
      have hblk := hO.blk i hi
      have h0 := hread w rfl
      have hyl : (ys.flatMap enc).length = ys.length * g.size := flat_len hz ys
      have hll : (l.flatMap enc).length = l.length * g.size := flat_len hz l
      have hle : ys.length * g.size ≤ sp.length := Nat.le_trans (Nat.mul_le_mul_right _ (by omega)) hsp
      have hst := run_storeCells_at (P := P) b (l.length * g.size) el (ys.flatMap enc) 0 (rows enc l sp) w hblk (by
        simp only [rows, List.size_toArray, List.length_append, hll, hyl]; omega) (fun v hv => by
          obtain ⟨y, _, hy⟩ := List.mem_flatMap.1 hv
          exact h1 y v hy)
      have hcells : ((rows enc l sp).toList.take (l.length * g.size + 0) ++ ys.flatMap enc ++ (rows enc l sp).toList.drop (l.length * g.size + 0 + (ys.flatMap enc).length)).toArray = rows enc (l ++ ys) (sp.drop (ys.length * g.size)) := by
        unfold rows
        congr 1
        simp only [Nat.add_zero, List.flatMap_append, List.append_assoc]
        rw [List.take_append_of_le_length (by omega), ← hll, List.take_length, List.drop_append, List.drop_eq_nil_of_le (by omega), List.nil_append, hyl]
        congr 3
        omega
      rw [hcells, setRow_eq hblk] at hst
      refine ⟨_, c, _, _, (hrun _).mpr ?_, .row b (sp.drop (ys.length * g.size)) c (l ++ ys) (by omega) (by rw [List.length_drop, happ, Nat.sub_add_eq, Nat.sub_mul]; omega), hO.put i hi _⟩
      simp only [hroom, if_true, Sem.run_bind, h0, Result.andThen, Addr.add_mid, Nat.zero_add, hst, Sem.run_pure, happ]
  · have hcap : ∀ t, l.length + ys.length ≤ (Question.appendCap (l.length + ys.length) c el).cut t := fun t => by simp only [Question.cut]; omega
    let w1 : World := { w with drawn := w.drawn + 1 }
    let n := (Question.appendCap (l.length + ys.length) c el).cut (w.tape w.drawn (.appendCap (l.length + ys.length) c el))
    have hn : l.length + ys.length ≤ n := hcap _
    have hold : (Builtin.firstCells g.size l.length (.slice p l.length c)).run P w1 = .ok (l.flatMap enc).toArray w1 := by
      cases hsl with
      | nil => rfl
      | row b sp c l hc hsp =>
        have := (Src.rows (P := P) (w := w) (i := 0) (m := l.length) (c := c) hz (hO.blk i hi) (by omega)).2 w1 rfl
        simpa using this
    have hnew := hread w1 rfl
    have hrl : ((Builtin.zeroCells zv.cells (n - (l.length + ys.length))).toList).length = (n - (l ++ ys).length) * g.size := by
      simp [Builtin.zeroCells, hzc, happ]
    refine ⟨_, n, _, _, (hrun _).mpr ?_, .row w.heap.size (Builtin.zeroCells zv.cells (n - (l.length + ys.length))).toList n (l ++ ys) (by omega) (Nat.le_of_eq hrl.symm), Own.repl (k := w.heap.size) ((show Own z w1 ss from ⟨hO.os, hO.tape, hO.output, hO.size, hO.nd, hO.at_⟩).alloc _) i hi⟩
    have hch : (choose (.appendCap (l.length + ys.length) c el)).run P w = .ok n w1 := by
      simp [Question.forced, w1, n]
    simp only [hroom, if_false, Sem.run_bind, hch, Result.andThen, run_askRoom, hold, hnew, newRow, run_newObj, Sem.run_pure, happ]
    have hc2 : (l.flatMap enc).toArray ++ (ys.flatMap enc).toArray ++ Builtin.zeroCells zv.cells (n - (l.length + ys.length)) = rows enc (l ++ ys) (Builtin.zeroCells zv.cells (n - (l.length + ys.length))).toList := by
      apply Array.ext'
      simp [rows, List.flatMap_append]
    rw [hc2]

/-- append(xs, ys...): operation number k. The row is segment number i. -/
theorem O_append (hT : TOK P T) (hO : Own z w ss) (i : Nat) (hz : ∀ x, (enc x).length = size) (h1 : ∀ x, ∀ u ∈ enc x, u.oneCell' = true) {o : Oper} {d : Nat} {t el : TypeId} {e g : TE} {zv : Value} {x y : Operand} {p : Option Addr} {c n : Nat} {l ys : List α} {s : HL} {yv : Value}
    (hsl : Sl el size enc p c l s) (hn : n = l.length) (hsrc : ∀ w, Own z w ss → Src P w size yv ys.length (ys.flatMap enc)) (hb : (l.length + ys.length) * g.bytes ≤ 140737488355328)
    (h : ∀ p' c' s' w', Sl el size enc p' c' (l ++ ys) s' → Own z w' (ss.set i s') → Kp ((d, .slice p' (l ++ ys).length c') :: env) w')
    (ho : ops[k]? = some o := by rfl) (hop : o.op = .call { callee := .builtin .append, args := #[x, y], argTypes := #[t, t] } := by rfl) (hd : o.dst = some d := by rfl) (hlt : Nat.blt d nt = true := by rfl) (hw : wantE ops nt env o = some true := by as_aux_lemma => kernel_rfl)
    (hx : evO env x = some (.slice p n c) := by as_aux_lemma => kernel_rfl) (hy : evO env y = some yv := by as_aux_lemma => kernel_rfl) (hi : ss[i]? = some s := by rfl)
    (ht : T t = some e := by rfl) (hde : e.d = .slice el := by rfl) (hg : T el = some g := by rfl) (hgz : g.zero = some zv := by rfl) (hgs : g.size = size := by rfl) (hzc : Nat.beq zv.cells.size size = true := by rfl) (hb0 : Nat.blt 0 g.bytes = true := by rfl) :
    OE ro P ops Q k nt ds env w Kp := by
  subst hn
  subst hgs
  obtain ⟨p', c', s', w', hr, hs', hO'⟩ := run_append_sl hT ht hde hg hgz (Nat.eq_of_beq_eq_true hzc) hz h1 hsl (hsrc w hO) hO i hi hb (Nat.lt_of_succ_le (Nat.le_of_ble_eq_true hb0)) o.type
  refine O_val ho hd hlt hw (fun a hf => ?_) (h p' c' s' w' hs' hO')
  obtain ⟨dst, op, type, pos, after, guard⟩ := o
  simp only at hop hr
  subst hop
  simp only [execOp, resolve, List.map_toArray, List.map_cons, List.map_nil, hf.ev hx, hf.ev hy, Sem.run_bind, Sem.run_pure, Result.andThen, invoke, builtin, hr]
end Go.SL
