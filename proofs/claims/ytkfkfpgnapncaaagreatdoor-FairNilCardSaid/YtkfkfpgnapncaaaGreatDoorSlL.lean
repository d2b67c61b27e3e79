import Derived.Test.YtkfkfpgnapncaaaGreatDoorSlK
/-! Shifts by what is not written out, quotients; panics. -/
namespace Go.SL
open Go Go.RowKit
variable {ro : Option Nat} {P : Program} {T : TT} {ops : Array Oper} {Q : Exit → Act → World → Prop} {w z : World} {ss : List HL} {nt : Nat} {ds : List Deferred} {env env' : Env} {Kp : Env → World → Prop} {k : Nat}

theorem O_bin {bo : BinOp} {ik jk : IntKind} {x y : Int} {v : Value} {o : Oper} {d : Nat} {t u : TypeId} {ox oy : Operand}
    (hr : ∀ w, (binOp bo t (.int ik x) (.int jk y)).run P w = .ok v w) (h : Kp ((d, v) :: env) w)
    (ho : ops[k]? = some o := by rfl) (hop : o.op = .binOp bo t ox oy u := by rfl) (hd : o.dst = some d := by rfl) (hlt : Nat.blt d nt = true := by rfl) (hw : wantE ops nt env o = some true := by as_aux_lemma => kernel_rfl)
    (hx : evO env ox = some (.int ik x) := by as_aux_lemma => kernel_rfl) (hy : evO env oy = some (.int jk y) := by as_aux_lemma => kernel_rfl) : OE ro P ops Q k nt ds env w Kp := by
  refine O_val ho hd hlt hw (fun a hf => ?_) h
  obtain ⟨dst, op, type, pos, after, guard⟩ := o
  simp only at hop
  subst hop
  have hg : ∀ w, (eqGuard bo t ox oy (.int ik x) (.int jk y)).run P w = .ok () w := fun w => by cases bo <;> rfl
  simp only [execOp, hf.ev hx, hf.ev hy, Sem.run_bind, hg, Result.andThen, hr, Sem.run_pure]

theorem bin_run {bo : BinOp} {ik jk : IntKind} {x y : Int} {v : Value} {o : Oper} {t u : TypeId} {ox oy : Operand} {a : Act} (hr : ∀ w, (binOp bo t (.int ik x) (.int jk y)).run P w = .ok v w) (hf : Fr nt ds env a)
    (hop : o.op = .binOp bo t ox oy u) (hx : evO env ox = some (.int ik x)) (hy : evO env oy = some (.int jk y)) (w : World) : (execOp a.eval o).run P w = .ok (.value v) w := by
  obtain ⟨dst, op, type, pos, after, guard⟩ := o
  simp only at hop
  subst hop
  have hg : ∀ w, (eqGuard bo t ox oy (.int ik x) (.int jk y)).run P w = .ok () w := fun w => by cases bo <;> rfl
  simp only [execOp, hf.ev hx, hf.ev hy, Sem.run_bind, hg, Result.andThen, hr, Sem.run_pure]

/-- Quiet, in a region that draws. -/
theorem M_bin {S : World → Prop} (hS : S w) {N i d : Nat} {r : List Stp} {bo : BinOp} {ik jk : IntKind} {x y : Int} {v : Value} {o : Oper} {t u : TypeId} {ox oy : Operand}
    (hr : ∀ w, (binOp bo t (.int ik x) (.int jk y)).run P w = .ok v w) (h : ME ro P ops Q S N r nt ds ((d, v) :: env) w)
    (ho : ops[i]? = some o := by rfl) (hop : o.op = .binOp bo t ox oy u := by rfl) (hd : o.dst = some d := by rfl) (hlt : Nat.blt d nt = true := by rfl) (hw : wantE ops nt env o = some true := by as_aux_lemma => kernel_rfl)
    (hx : evO env ox = some (.int ik x) := by as_aux_lemma => kernel_rfl) (hy : evO env oy = some (.int jk y) := by as_aux_lemma => kernel_rfl) : ME ro P ops Q S N (.q i :: r) nt ds env w := fun a hf =>
  ⟨hS, o, v, ho, .inl ⟨hf.want hw, fun w _ => bin_run hr hf hop hx hy w⟩, by rw [hd]; exact h _ (hf.put (Nat.lt_of_succ_le (Nat.le_of_ble_eq_true hlt)) v)⟩

theorem idx_run (hT : TOK P T) (j : Nat) {n c : Nat} {o : Oper} {t el : TypeId} {e g : TE} {x ix : Operand} {b off : Nat} {kk : IntKind} {i : Int} {a : Act} (hi : i = (j : Int)) (hj : j < n) (hf : Fr nt ds env a)
    (hop : o.op = .indexAddr t x ix) (hx : evO env x = some (.slice (some ⟨b, off, none⟩) n c)) (hix : evO env ix = some (.int kk i)) (ht : T t = some e) (hde : e.d = .slice el) (hg : T el = some g) (w : World) :
    (execOp a.eval o).run P w = .ok (.value (.pointer (some ⟨b, off + j * g.size, none⟩))) w := by
  obtain ⟨dst, op, type, pos, after, guard⟩ := o
  simp only at hop
  subst hop
  have hu := run_und hT ht w
  rw [hde] at hu
  subst hi
  simp [execOp, Instr.indexAt, hf.ev hx, hf.ev hix, asIntOf, hu, run_size hT hg, hj, Addr.add_mid]

theorem M_idx (hT : TOK P T) {S : World → Prop} (hS : S w) {N i' d : Nat} {r : List Stp} (j : Nat) {n c : Nat} {o : Oper} {t el : TypeId} {e g : TE} {x ix : Operand} {b off : Nat} {kk : IntKind} {i : Int} (hi : i = (j : Int)) (hj : j < n)
    (h : ME ro P ops Q S N r nt ds ((d, .pointer (some ⟨b, off + j * g.size, none⟩)) :: env) w)
    (ho : ops[i']? = some o := by rfl) (hop : o.op = .indexAddr t x ix := by rfl) (hd : o.dst = some d := by rfl) (hlt : Nat.blt d nt = true := by rfl) (hw : wantE ops nt env o = some true := by as_aux_lemma => kernel_rfl)
    (hx : evO env x = some (.slice (some ⟨b, off, none⟩) n c) := by rfl) (hix : evO env ix = some (.int kk i) := by rfl)
    (ht : T t = some e := by rfl) (hde : e.d = .slice el := by rfl) (hg : T el = some g := by rfl) : ME ro P ops Q S N (.q i' :: r) nt ds env w := fun a hf =>
  ⟨hS, o, _, ho, .inl ⟨hf.want hw, fun w _ => idx_run hT j hi hj hf hop hx hix ht hde hg w⟩, by rw [hd]; exact h _ (hf.put (Nat.lt_of_succ_le (Nat.le_of_ble_eq_true hlt)) _)⟩

theorem run_shl {t : TypeId} {ik jk : IntKind} {x y : Int} (hy : 0 ≤ y) (w : World) : (binOp .shl t (.int ik x) (.int jk y)).run P w = .ok (.int ik (ik.wrap (x * 2 ^ (min y.toNat ik.bits)))) w := by
  simp [binOp, Op.shift, Int.not_lt.2 hy]
theorem run_shr {t : TypeId} {ik jk : IntKind} {x y : Int} (hy : 0 ≤ y) (w : World) : (binOp .shr t (.int ik x) (.int jk y)).run P w = .ok (.int ik (x.fdiv (2 ^ (min y.toNat ik.bits)))) w := by
  simp [binOp, Op.shift, Int.not_lt.2 hy]
theorem run_quo {t : TypeId} {ik : IntKind} {x y : Int} (hy : y ≠ 0) (w : World) : (binOp .quo t (.int ik x) (.int ik y)).run P w = .ok (.int ik (ik.wrap (x.tdiv y))) w := by
  simp [binOp, Op.intDiv, hy]
theorem run_rem {t : TypeId} {ik : IntKind} {x y : Int} (hy : y ≠ 0) (w : World) : (binOp .rem t (.int ik x) (.int ik y)).run P w = .ok (.int ik (x.tmod y)) w := by
  simp [binOp, Op.intDiv, hy]

theorem wrap_u32_nonneg (n : Int) : 0 ≤ IntKind.u32.wrap n := by
  simp only [IntKind.wrap, IntKind.signed, IntKind.bits, Bool.false_and, Bool.false_eq_true, if_false]
  exact Int.emod_nonneg _ (by decide)
theorem wrap_u32_lt (n : Int) : IntKind.u32.wrap n < 4294967296 := by
  simp only [IntKind.wrap, IntKind.signed, IntKind.bits, Bool.false_and, Bool.false_eq_true, if_false]
  exact Int.emod_lt_of_pos _ (by decide)
theorem wrap_u32_of {n : Int} (h0 : 0 ≤ n) (h1 : n < 4294967296) : IntKind.u32.wrap n = n := by
  simp only [IntKind.wrap, IntKind.signed, IntKind.bits, Bool.false_and, Bool.false_eq_true, if_false]
  exact Int.emod_eq_of_lt h0 h1
theorem wrap_u8_of {n : Int} (h0 : 0 ≤ n) (h1 : n < 256) : IntKind.u8.wrap n = n := by
  simp only [IntKind.wrap, IntKind.signed, IntKind.bits, Bool.false_and, Bool.false_eq_true, if_false]
  exact Int.emod_eq_of_lt h0 h1
theorem wrap_u64_of {n : Int} (h0 : 0 ≤ n) (h1 : n < 18446744073709551616) : IntKind.u64.wrap n = n := by
  simp only [IntKind.wrap, IntKind.signed, IntKind.bits, Bool.false_and, Bool.false_eq_true, if_false]
  exact Int.emod_eq_of_lt h0 h1
theorem wrap_i64_of {n : Int} (h0 : -9223372036854775808 ≤ n) (h1 : n < 9223372036854775808) : IntKind.i64.wrap n = n := by
  simp only [IntKind.wrap, IntKind.signed, IntKind.bits, Bool.true_and]
  split
  · rename_i h; have := of_decide_eq_true h; simp only [Int.reducePow, Nat.reduceSub] at this ⊢; omega
  · rename_i h; have : ¬ (n % 2 ^ 64 ≥ (2 ^ (64 - 1) : Int)) := fun h' => h (decide_eq_true h'); simp only [Int.reducePow, Nat.reduceSub] at this ⊢; omega

theorem wrap_i32_of {n : Int} (h0 : 0 ≤ n) (h1 : n < 4294967296) : IntKind.i32.wrap n = if 2147483648 ≤ n then n - 4294967296 else n := by
  simp only [IntKind.wrap, IntKind.signed, IntKind.bits, Bool.true_and, Int.reducePow, Nat.reduceSub, Int.emod_eq_of_lt h0 h1]
  by_cases h : 2147483648 ≤ n
  · rw [if_pos (decide_eq_true h), if_pos h]
  · rw [if_neg (by simpa using h), if_neg h]

/-! ### What a panic's exit says does not hang on a slot -/
def PD (Q : Exit → Act → World → Prop) : Prop := ∀ c a w (d : Option Tmp) v, Q (.panic c) (a.put d v) w → Q (.panic c) a w
theorem pdT {Y : Act → World → Prop} (h : PD Q) : PD (Exit.then Y Q) := fun c a w d v hq => h c a w d v hq
theorem pdB {id : Nat} (h : PD Q) : PD (Exit.inBlock id Q) := fun c a w d v hq => h c a w d v hq
theorem pdF {fn : Func} {R : Ending → World → Prop} : PD (bodyPost P fn R) := fun c a w d v hq => by
  obtain ⟨h1, h2⟩ := hq
  exact ⟨by cases d <;> exact h1, h2⟩
end Go.SL
