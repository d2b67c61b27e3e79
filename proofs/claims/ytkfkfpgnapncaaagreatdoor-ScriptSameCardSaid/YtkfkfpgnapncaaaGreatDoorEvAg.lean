import Derived.Test.YtkfkfpgnapncaaaGreatDoorEvF
import Derived.Test.YtkfkfpgnapncaaaGreatDoorMC
set_option linter.unusedSimpArgs false
set_option linter.unusedVariables false
/-! '==' and '!=' of structs, as steps of a walk. -/
noncomputable section
namespace Go.SL
open Go Go.RowKit
open Go.EV (AggOK eqA eqA_run)
section
variable {P : Program} {T : TT} {ro : Option Nat} {ops : Array Oper} {Q : Exit → Act → World → Prop} {w z : World} {nt : Nat} {ds : List Deferred} {env : Env}

theorem aggNeq_run (hT : TOK P T) {E : List Nat} (hE : AggOK P E) {t u : TypeId} {xs ys : Array Value} {b : Bool} {o : Oper} {ox oy : Operand} {a : Act} (hc : (Nat.blt t 1000000 && E.contains t) = true) (hq : eqA T E 10 t (.agg xs) (.agg ys) = some b)
    (hf : Fr nt ds env a) (hop : o.op = .binOp .neq t ox oy u) (hx : evO env ox = some (.agg xs)) (hy : evO env oy = some (.agg ys)) (w : World) : (execOp a.eval o).run P w = .ok (.value (.bool (!b))) w := by
  have hr := eqA_run (w := w) hT hE 9990 hq
  have hg := run_eqGuard_agg w .neq t ox oy xs ys (hE.agg t (by rw [Bool.and_eq_true] at hc; exact hc.1) (by rw [Bool.and_eq_true] at hc; exact hc.2)).1
  have h2 : (binOp .neq t (.agg xs) (.agg ys)).run P w = .ok (.bool (!b)) w := by rw [run_neq_struct, hr]; rfl
  obtain ⟨dst, op', type, pos, after, guard⟩ := o
  simp only at hop
  subst hop
  simp only [execOp, hf.ev hx, hf.ev hy, Sem.run_bind, hg, h2, Result.andThen, Sem.run_pure]

theorem aggEql_run (hT : TOK P T) {E : List Nat} (hE : AggOK P E) {t u : TypeId} {xs ys : Array Value} {b : Bool} {o : Oper} {ox oy : Operand} {a : Act} (hc : (Nat.blt t 1000000 && E.contains t) = true) (hq : eqA T E 10 t (.agg xs) (.agg ys) = some b)
    (hf : Fr nt ds env a) (hop : o.op = .binOp .eql t ox oy u) (hx : evO env ox = some (.agg xs)) (hy : evO env oy = some (.agg ys)) (w : World) : (execOp a.eval o).run P w = .ok (.value (.bool b)) w := by
  have hr := eqA_run (w := w) hT hE 9990 hq
  have hg := run_eqGuard_agg w .eql t ox oy xs ys (hE.agg t (by rw [Bool.and_eq_true] at hc; exact hc.1) (by rw [Bool.and_eq_true] at hc; exact hc.2)).1
  have h2 : (binOp .eql t (.agg xs) (.agg ys)).run P w = .ok (.bool b) w := by rw [run_eql_struct, hr]; rfl
  obtain ⟨dst, op', type, pos, after, guard⟩ := o
  simp only at hop
  subst hop
  simp only [execOp, hf.ev hx, hf.ev hy, Sem.run_bind, hg, h2, Result.andThen, Sem.run_pure]

theorem M_neq (hT : TOK P T) {E : List Nat} (hE : AggOK P E) {S : World → Prop} (hS : S w) {N i d : Nat} {r : List Stp} (b : Bool) {o : Oper} {t u : TypeId} {ox oy : Operand} {xs ys : Array Value}
    (h : ME ro P ops Q S N r nt ds ((d, .bool (!b)) :: env) w)
    (hc : (Nat.blt t 1000000 && E.contains t) = true := by as_aux_lemma => kernel_rfl) (hq : eqA T E 10 t (.agg xs) (.agg ys) = some b := by as_aux_lemma => kernel_rfl)
    (ho : ops[i]? = some o := by rfl) (hop : o.op = .binOp .neq t ox oy u := by rfl) (hd : o.dst = some d := by rfl) (hlt : Nat.blt d nt = true := by rfl) (hw : wantE ops nt env o = some true := by as_aux_lemma => kernel_rfl)
    (hx : evO env ox = some (.agg xs) := by as_aux_lemma => kernel_rfl) (hy : evO env oy = some (.agg ys) := by as_aux_lemma => kernel_rfl) : ME ro P ops Q S N (.q i :: r) nt ds env w := fun a hf =>
  ⟨hS, o, _, ho, .inl ⟨hf.want hw, fun w _ => aggNeq_run hT hE hc hq hf hop hx hy w⟩, by rw [hd]; exact h _ (hf.put (Nat.lt_of_succ_le (Nat.le_of_ble_eq_true hlt)) _)⟩
theorem M_eql (hT : TOK P T) {E : List Nat} (hE : AggOK P E) {S : World → Prop} (hS : S w) {N i d : Nat} {r : List Stp} (b : Bool) {o : Oper} {t u : TypeId} {ox oy : Operand} {xs ys : Array Value}
    (h : ME ro P ops Q S N r nt ds ((d, .bool b) :: env) w)
    (hc : (Nat.blt t 1000000 && E.contains t) = true := by as_aux_lemma => kernel_rfl) (hq : eqA T E 10 t (.agg xs) (.agg ys) = some b := by as_aux_lemma => kernel_rfl)
    (ho : ops[i]? = some o := by rfl) (hop : o.op = .binOp .eql t ox oy u := by rfl) (hd : o.dst = some d := by rfl) (hlt : Nat.blt d nt = true := by rfl) (hw : wantE ops nt env o = some true := by as_aux_lemma => kernel_rfl)
    (hx : evO env ox = some (.agg xs) := by as_aux_lemma => kernel_rfl) (hy : evO env oy = some (.agg ys) := by as_aux_lemma => kernel_rfl) : ME ro P ops Q S N (.q i :: r) nt ds env w := fun a hf =>
  ⟨hS, o, _, ho, .inl ⟨hf.want hw, fun w _ => aggEql_run hT hE hc hq hf hop hx hy w⟩, by rw [hd]; exact h _ (hf.put (Nat.lt_of_succ_le (Nat.le_of_ble_eq_true hlt)) _)⟩
theorem O_neq (hT : TOK P T) {E : List Nat} (hE : AggOK P E) {k : Nat} {Kp : Env → World → Prop} {d : Nat} (b : Bool) {o : Oper} {t u : TypeId} {ox oy : Operand} {xs ys : Array Value}
    (h : Kp ((d, .bool (!b)) :: env) w)
    (hc : (Nat.blt t 1000000 && E.contains t) = true := by as_aux_lemma => kernel_rfl) (hq : eqA T E 10 t (.agg xs) (.agg ys) = some b := by as_aux_lemma => kernel_rfl)
    (ho : ops[k]? = some o := by rfl) (hop : o.op = .binOp .neq t ox oy u := by rfl) (hd : o.dst = some d := by rfl) (hlt : Nat.blt d nt = true := by rfl) (hw : wantE ops nt env o = some true := by as_aux_lemma => kernel_rfl)
    (hx : evO env ox = some (.agg xs) := by as_aux_lemma => kernel_rfl) (hy : evO env oy = some (.agg ys) := by as_aux_lemma => kernel_rfl) : OE ro P ops Q k nt ds env w Kp :=
  O_val ho hd hlt hw (fun _ hf => aggNeq_run hT hE hc hq hf hop hx hy _) h
theorem O_eql (hT : TOK P T) {E : List Nat} (hE : AggOK P E) {k : Nat} {Kp : Env → World → Prop} {d : Nat} (b : Bool) {o : Oper} {t u : TypeId} {ox oy : Operand} {xs ys : Array Value}
    (h : Kp ((d, .bool b) :: env) w)
    (hc : (Nat.blt t 1000000 && E.contains t) = true := by as_aux_lemma => kernel_rfl) (hq : eqA T E 10 t (.agg xs) (.agg ys) = some b := by as_aux_lemma => kernel_rfl)
    (ho : ops[k]? = some o := by rfl) (hop : o.op = .binOp .eql t ox oy u := by rfl) (hd : o.dst = some d := by rfl) (hlt : Nat.blt d nt = true := by rfl) (hw : wantE ops nt env o = some true := by as_aux_lemma => kernel_rfl)
    (hx : evO env ox = some (.agg xs) := by as_aux_lemma => kernel_rfl) (hy : evO env oy = some (.agg ys) := by as_aux_lemma => kernel_rfl) : OE ro P ops Q k nt ds env w Kp :=
  O_val ho hd hlt hw (fun _ hf => aggEql_run hT hE hc hq hf hop hx hy _) h
end

end Go.SL
