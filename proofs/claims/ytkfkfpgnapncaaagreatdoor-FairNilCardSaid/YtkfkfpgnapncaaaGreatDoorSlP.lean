import Derived.Test.YtkfkfpgnapncaaaGreatDoorSlO
import Derived.Scope
import Derived.LoopNIn
/-! Bytes of strings; maps with any plain keys; new slices; copies. -/
namespace Go.SL
open Go Go.RowKit
variable {ro : Option Nat} {P : Program} {T : TT} {ops : Array Oper} {Q : Exit → Act → World → Prop} {w z : World} {ss : List HL} {nt : Nat} {ds : List Deferred} {env env' : Env} {Kp : Env → World → Prop} {k : Nat}

/-- A byte of a string. -/
theorem O_strIdx (hT : TOK P T) (j : Nat) {s : ByteArray} {c : UInt8} {o : Oper} {d : Nat} {t : TypeId} {e : TE} {x ix : Operand} {kk : IntKind} {i : Int} (hi : i = (j : Int)) (hj : s[j]? = some c)
    (h : Kp ((d, .int .u8 c.toNat) :: env) w)
    (ho : ops[k]? = some o := by rfl) (hop : o.op = .index t x ix := by rfl) (hd : o.dst = some d := by rfl) (hlt : Nat.blt d nt = true := by rfl) (hw : wantE ops nt env o = some true := by as_aux_lemma => kernel_rfl)
    (hx : evO env x = some (.string s) := by as_aux_lemma => kernel_rfl) (hix : evO env ix = some (.int kk i) := by rfl)
    (ht : T t = some e := by rfl) (hde : e.d = .string := by rfl) : OE ro P ops Q k nt ds env w Kp := by
  refine O_val ho hd hlt hw (fun a hf => ?_) h
  obtain ⟨dst, op, type, pos, after, guard⟩ := o
  simp only at hop
  subst hop
  have hu := run_und hT ht w
  rw [hde] at hu
  subst hi
  simp [execOp, Instr.index, hf.ev hx, hf.ev hix, asIntOf, hu, hj]

/-- The keys that a map may be asked for at once. -/
def plainKey (d : TypeDesc) (kv : Value) : Bool :=
  match d, kv with
  | .int _, .int _ _ => true
  | .string, .string _ => true
  | _, _ => false
theorem run_checkKeyP {t : TypeId} {d : TypeDesc} {kv : Value} {b : Bool} (hu : ∀ w, (underlying t).run P w = .ok d w) (hp : plainKey d kv = true) (w : World) : (Instr.checkKey b 10000 t kv).run P w = .ok () w := by
  rw [show (10000 : Nat) = 9999 + 1 from rfl]
  unfold Instr.checkKey
  rw [Sem.run_bind, hu w]
  unfold plainKey at hp
  split at hp
  · rfl
  · rfl
  · simp at hp

/-- A store of a key that is not there yet. -/
theorem O_insertK (hT : TOK P T) (hO : Own z w ss) (i : Nat) {o : Oper} {t kt vt : TypeId} {e g : TE} {m kx x : Operand} {b : Nat} {es : Array MapEntry} {c : Nat} {kv v : Value}
    (h : ∀ w', Own z w' (ss.set i [(b, .map (es.push ⟨kv, v, c⟩) (c + 1))]) → Kp env w')
    (ho : ops[k]? = some o := by rfl) (hop : o.op = .insert t m kx x := by rfl) (hd : o.dst = none := by rfl) (hw : wantE ops nt env o = some true := by as_aux_lemma => kernel_rfl)
    (hm : evO env m = some (.map (some b)) := by rfl) (hk : evO env kx = some kv := by rfl) (hx : evO env x = some v := by rfl) (hb : ss[i]? = some [(b, .map es c)] := by rfl)
    (ht : T t = some e := by rfl) (hde : e.d = .map kt vt := by rfl) (hg : T kt = some g := by rfl) (hp : plainKey g.d kv = true := by rfl) (hf : Instr.findNow g.d kv es.toList 0 = some none := by as_aux_lemma => kernel_rfl) : OE ro P ops Q k nt ds env w Kp := fun K a hf' hK => by
  have hblk := hO.blk i hb
  have hu := run_und hT ht w
  rw [hde] at hu
  have hku : ∀ w, (underlying kt).run P w = .ok g.d w := fun w => run_und hT hg w
  have hr : (execOp a.eval o).run P w = .ok .skip { w with heap := w.heap.setIfInBounds b (.map (es.push ⟨kv, v, c⟩) (c + 1)) } := by
    obtain ⟨dst, op, type, pos, after, guard⟩ := o
    simp only at hop
    subst hop
    simp only [execOp, hf'.ev hm, hf'.ev hk, hf'.ev hx, Instr.mapUpdate, Sem.run_bind, hu, Result.andThen, run_getObj_map hblk, run_checkKeyP hku hp, Instr.findKey, hku, hf, Sem.run_pure, run_setObj_map _ hblk]
  refine wpOp_skip ho (hf'.want hw) hr ?_
  rw [hd]
  exact hK _ _ _ (h _ (hO.put i hb _)) hf'

/-- A key that is asked for, where it is known whether it is there. -/
theorem O_lookupK (hT : TOK P T) (hO : Own z w ss) (i : Nat) {o : Oper} {d : Nat} {t kt vt : TypeId} {e g gv : TE} {m kx : Operand} {b : Nat} {es : Array MapEntry} {c : Nat} {kv zv : Value} {ok : Bool} (r : Option (Nat × Value)) (u : Value)
    (h : Kp ((d, u) :: env) w) 
    (ho : ops[k]? = some o := by rfl) (hop : o.op = .lookup t m kx ok := by rfl) (hd : o.dst = some d := by rfl) (hlt : Nat.blt d nt = true := by rfl) (hw : wantE ops nt env o = some true := by as_aux_lemma => kernel_rfl)
    (hm : evO env m = some (.map (some b)) := by rfl) (hk : evO env kx = some kv := by rfl) (hb : ss[i]? = some [(b, .map es c)] := by rfl)
    (ht : T t = some e := by rfl) (hde : e.d = .map kt vt := by rfl) (hg : T kt = some g := by rfl) (hp : plainKey g.d kv = true := by rfl) (hgv : T vt = some gv := by rfl) (hz : gv.zero = some zv := by rfl)
    (hf : Instr.findNow g.d kv es.toList 0 = some r := by as_aux_lemma => kernel_rfl)
    (hu : (if ok then Value.tuple #[(r.map (·.2)).getD zv, .bool r.isSome] else (r.map (·.2)).getD zv) = u := by rfl) : OE ro P ops Q k nt ds env w Kp := by
  refine O_val ho hd hlt hw (fun a hf' => ?_) h
  have hblk := hO.blk i hb
  have hun := run_und hT ht w
  rw [hde] at hun
  have hku : ∀ w, (underlying kt).run P w = .ok g.d w := fun w => run_und hT hg w
  obtain ⟨dst, op, type, pos, after, guard⟩ := o
  simp only at hop
  subst hop
  subst hu
  simp only [execOp, hf'.ev hm, hf'.ev hk, Instr.lookup, Sem.run_bind, hun, Result.andThen, run_getObj_map hblk, Sem.run_pure, run_checkKeyP hku hp, Instr.findKey, hku, hf]
  cases r with
  | none => simp only [Sem.run_bind, run_zero hT hgv hz, Result.andThen, Sem.run_pure, Option.map_none, Option.getD_none, Option.isSome_none]
  | some p =>
    obtain ⟨i, v⟩ := p
    rfl

/-! ### New slices -/
variable {α : Type} {enc : α → List Value} {size : Nat}

theorem fill_rows {x0 : α} {zv : Value} (h0 : zv.cells.toList = enc x0) (hz : ∀ x, (enc x).length = size) (hs : 0 < size) (n : Nat) :
    (Array.range (n * size)).map (zv.cells[· % zv.cells.size]!) = rows enc (List.replicate n x0) [] := by
  have hc : zv.cells = (enc x0).toArray := by rw [← h0]
  have hsz : zv.cells.size = size := by rw [hc]; simpa using hz x0
  apply Array.ext'
  simp only [rows, List.append_nil, Array.toList_map, Array.toList_range, hsz]
  induction n with
  | zero => simp
  | succ n ih =>
    rw [Nat.add_mul, Nat.one_mul, List.range_add, List.map_append, ih]
    rw [show List.replicate (n + 1) x0 = List.replicate n x0 ++ [x0] from List.replicate_succ', List.flatMap_append]
    congr 1
    simp only [List.flatMap_cons, List.flatMap_nil, List.append_nil, List.map_map]
    apply List.ext_getElem?
    intro i
    simp only [List.getElem?_map]
    rcases Nat.lt_or_ge i size with hi | hi
    · have h2 : (List.range size)[i]? = some i := by simp [hi]
      rw [h2]
      have hi' : i < (enc x0).length := by rw [hz]; exact hi
      simp [hc, hi', Nat.mul_add_mod, Nat.mul_add_mod', Nat.mod_eq_of_lt hi]
    · have h2 : (List.range size)[i]? = none := by simp [hi]
      have h3 : (enc x0)[i]? = none := by simp [hz, hi]
      rw [h2, h3]; rfl

theorem O_makeSlice (hT : TOK P T) (hO : Own z w ss) (x0 : α) (n : Nat) (hz : ∀ x, (enc x).length = size) {o : Oper} {d : Nat} {t el : TypeId} {e g : TE} {zv : Value} {x y : Operand} {kk kk' : IntKind} {i i' : Int} (hi : i = (n : Int)) (hi' : i' = (n : Int)) (hb : n * g.bytes ≤ 2 ^ 47)
    (h0 : zv.cells.toList = enc x0)
    (h : ∀ b w', Own z w' (ss ++ [[(b, .cells (rows enc (List.replicate n x0) []) el (0, 0))]]) → Kp ((d, .slice (some ⟨b, 0, none⟩) n n) :: env) w')
    (ho : ops[k]? = some o := by rfl) (hop : o.op = .makeSlice t x y := by rfl) (hd : o.dst = some d := by rfl) (hlt : Nat.blt d nt = true := by rfl) (hw : wantE ops nt env o = some true := by as_aux_lemma => kernel_rfl)
    (hx : evO env x = some (.int kk i) := by as_aux_lemma => kernel_rfl) (hy : evO env y = some (.int kk' i') := by as_aux_lemma => kernel_rfl)
    (ht : T t = some e := by rfl) (hde : e.d = .slice el := by rfl) (hg : T el = some g := by rfl) (hgz : g.zero = some zv := by rfl) (hgs : g.size = size := by rfl) (hgb : Nat.blt 0 g.bytes = true := by rfl) (hs0 : Nat.blt 0 size = true := by rfl) : OE ro P ops Q k nt ds env w Kp := by
  subst hi; subst hi'; subst hgs
  refine O_val ho hd hlt hw (fun a hf => ?_) (h w.heap.size _ (hO.alloc _))
  obtain ⟨dst, op, type, pos, after, guard⟩ := o
  simp only at hop
  subst hop
  have hu := run_und hT ht w
  rw [hde] at hu
  obtain ⟨_, ti, hti, hti2, hti3, hti4⟩ := hT.ok el g hg
  have hb0 : 0 < g.bytes := Nat.lt_of_succ_le (Nat.le_of_ble_eq_true hgb)
  have hs : 0 < g.size := Nat.lt_of_succ_le (Nat.le_of_ble_eq_true hs0)
  have hn : n ≤ 2 ^ 47 := Nat.le_trans (Nat.le_mul_of_pos_right n hb0) hb
  have hw1 : IntKind.i64.wrap (n : Int) = n := wrap_i64_of (by omega) (by omega)
  have hbi : ((g.bytes : Int) * (n : Int)) ≤ 2 ^ 47 := by
    have : ((n * g.bytes : Nat) : Int) ≤ ((2 ^ 47 : Nat) : Int) := Int.ofNat_le.2 hb
    rw [Nat.mul_comm] at this
    simpa using this
  have hf1 := fill_rows (enc := enc) h0 hz hs n
  have hroom : ¬ (n * g.bytes > roomBytes) := by
    show ¬ (n * g.bytes > 2 ^ 47)
    omega
  have hbn : ¬ ((g.bytes : Int) * (n : Int) > 2 ^ 48) := by omega
  have hai : ∀ kk, (asIntOf (.int kk (n : Int))).run P w = .ok (kk, (n : Int)) w := fun _ => rfl
  have hpr : program.run P w = .ok P w := rfl
  have hn0 : ¬ ((n : Int) < 0) := by omega
  have hnn : ¬ ((n : Int) > (n : Int)) := by omega
  have hask : (askRoom (n * g.bytes)).run P w = .ok () w := by
    simp only [askRoom, hroom, if_false, Sem.run_pure]
  have hsz := run_size hT hg w
  have hzr := run_zero hT hg hgz w
  simp only [execOp, hf.ev hx, hf.ev hy, Instr.makeSlice, Sem.run_bind, hu, Result.andThen, asInt, Sem.run_pure, typeInfo, hti, hai, hpr, hw1, hti3, hbn, hn0, hnn, decide_false, Bool.or_false, Bool.false_eq_true, if_false, Int.toNat_natCast, hask, hsz]
  by_cases h00 : n * g.size = 0
  · have hn' : n = 0 := by
      rcases Nat.mul_eq_zero.1 h00 with h | h
      · exact h
      · omega
    subst hn'
    simp [newRow, rows, show Array.range 0 = #[] from rfl]
  · simp only [h00, if_false, Sem.run_bind, hzr, Result.andThen, Sem.run_pure, newRow, hf1]
    rfl

/-! ### Scopes without a goto -/
theorem wpIn_scope {F : Fence} {n : Nat} {a : Act} {c : Code} (h : c.wpIn F n P (Exit.noGoto Q) a w) : (Code.scope c).wpIn F n P Q a w := by
  intro b k cs hro hb hr
  have h0 : (lone (b.atR a (.code (.scope c) :: k)) cs w).fenced P F := fenced_calm hb hr rfl
  have s0 : step P (lone (b.atR a (.code (.scope c) :: k)) cs w) = .next (lone (b.atR a (.code c :: .inScope c :: k)) cs w) := step_lone_go (by simp [stepG, stepG.exec, Frame.atR])
  obtain ⟨e, a₁, w₁, hq, harr⟩ := h b (.inScope c :: k) cs hro hb hr
  have s1 : step P (lone (b.atR a₁ (.inScope c :: k)) cs w₁) = .next (lone (b.atR a₁ k) cs w₁) := step_lone_go (by simp [stepG, stepG.exec, Frame.atR])
  cases e with
  | normal => exact ⟨.normal, a₁, w₁, hq, .head h0 s0 (StepsIn.trans harr (.one (fenced_calm hb hr rfl) s1))⟩
  | exit id =>
    have hx : exitTo id (.inScope c :: k) = exitTo id k := by simp [exitTo]
    exact ⟨.exit id, a₁, w₁, hq, fun k' hk => .head h0 s0 (harr.1 k' (by rw [hx]; exact hk)),
      fun hr' hk => let ⟨k₁, h1, h2⟩ := harr.2 hr' (by rw [hx]; exact hk); ⟨k₁, h1, .head h0 s0 h2⟩⟩
  | goto l => exact hq.elim
  | ret => exact ⟨_, a₁, w₁, hq, .of_steps (.one h0 s0) harr⟩
  | panic ch => exact ⟨_, a₁, w₁, hq, .of_steps (.one h0 s0) harr⟩
  | outgrown => exact ⟨_, a₁, w₁, hq, .of_steps (.one h0 s0) harr⟩
theorem cScope {c : Code} (h : CE ro P c (Exit.noGoto Q) nt ds env w) : CE ro P (.scope c) Q nt ds env w := fun a hf => wpIn_scope (h a hf)
theorem cLabel {l : Nat} (h : QE Q .normal nt ds env w) : CE ro P (.label l) Q nt ds env w := fun a hf => wpIn_label (h a hf)
theorem qScN (h : QE Q .normal nt ds env w) : QE (Exit.noGoto Q) .normal nt ds env w := h
theorem qScR (h : QE Q .ret nt ds env w) : QE (Exit.noGoto Q) .ret nt ds env w := h
theorem qScX {id : Nat} (h : QE Q (.exit id) nt ds env w) : QE (Exit.noGoto Q) (.exit id) nt ds env w := h
theorem qScP {ch : List PanicEntry} (h : QE Q (.panic ch) nt ds env w) : QE (Exit.noGoto Q) (.panic ch) nt ds env w := h
theorem pdSc (h : PD Q) : PD (Exit.noGoto Q) := fun c a w d v hq => h c a w d v hq

/-! ### Loops, round by round -/
def RE (ro : Option Nat) (P : Program) (c : Code) (Q : Exit → Act → World → Prop) (m nt : Nat) (ds : List Deferred) (env : Env) (w : World) : Prop := ∀ a, Fr nt ds env a → Code.roundsIn (FW ro) 0 P c Q m a w
theorem cRounds {c : Code} (m : Nat) (h : RE ro P c Q m nt ds env w) : CE ro P (.loop c) Q nt ds env w := fun a hf => wpIn_loop_rounds m (h a hf)
theorem rNext {c : Code} {m : Nat} (h : CE ro P c (Exit.then (Code.roundsIn (FW ro) 0 P c Q m) Q) nt ds env w) : RE ro P c Q (m + 1) nt ds env w := h
theorem qNext {c : Code} {m : Nat} (h : RE ro P c Q m nt ds env w) : QE (Exit.then (Code.roundsIn (FW ro) 0 P c Q m) Q) .normal nt ds env w := h

/-! ### Elements of a row that begins its block -/
theorem O_idx0 (hT : TOK P T) (j : Nat) {n c : Nat} {o : Oper} {d : Nat} {t el : TypeId} {e g : TE} {x ix : Operand} {b : Nat} {kk : IntKind} {i : Int} (hi : i = (j : Int)) (hj : j < n)
    (h : Kp ((d, .pointer (some ⟨b, j * g.size, none⟩)) :: env) w)
    (ho : ops[k]? = some o := by rfl) (hop : o.op = .indexAddr t x ix := by rfl) (hd : o.dst = some d := by rfl) (hlt : Nat.blt d nt = true := by rfl) (hw : wantE ops nt env o = some true := by as_aux_lemma => kernel_rfl)
    (hx : evO env x = some (.slice (some ⟨b, 0, none⟩) n c) := by rfl) (hix : evO env ix = some (.int kk i) := by rfl)
    (ht : T t = some e := by rfl) (hde : e.d = .slice el := by rfl) (hg : T el = some g := by rfl) : OE ro P ops Q k nt ds env w Kp :=
  O_idx hT j hi hj (by rw [Nat.zero_add]; exact h) ho hop hd hlt hw hx hix ht hde hg
theorem O_idxA0 (hT : TOK P T) (j : Nat) {n : Nat} {o : Oper} {d : Nat} {t el : TypeId} {e g : TE} {x ix : Operand} {b : Nat} {kk : IntKind} {i : Int} (hi : i = (j : Int)) (hj : j < n)
    (h : Kp ((d, .pointer (some ⟨b, j * g.size, none⟩)) :: env) w)
    (ho : ops[k]? = some o := by rfl) (hop : o.op = .indexAddr t x ix := by rfl) (hd : o.dst = some d := by rfl) (hlt : Nat.blt d nt = true := by rfl) (hw : wantE ops nt env o = some true := by as_aux_lemma => kernel_rfl)
    (hx : evO env x = some (.pointer (some ⟨b, 0, none⟩)) := by rfl) (hix : evO env ix = some (.int kk i) := by rfl)
    (ht : T t = some e := by rfl) (hde : e.d = .array n el := by rfl) (hg : T el = some g := by rfl) : OE ro P ops Q k nt ds env w Kp :=
  O_idxA hT j hi hj (by rw [Nat.zero_add]; exact h) ho hop hd hlt hw hx hix ht hde hg
end Go.SL
