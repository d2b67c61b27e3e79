import Derived.Test.YtkfkfpgnapncaaaGreatDoorEvJ
import Derived.Test.YtkfkfpgnapncaaaGreatDoorEvW9
import Derived.Test.YtkfkfpgnapncaaaGreatDoorScC
import Derived.Test.YtkfkfpgnapncaaaGreatDoorScD
import Derived.Test.YtkfkfpgnapncaaaGreatDoorScB
import Derived.Test.YtkfkfpgnapncaaaGreatDoorEvRk
set_option linter.unusedSimpArgs false
set_option linter.unusedVariables false
/-! Bytes as a string, as a step of a walk; the laws' own run. -/
noncomputable section
namespace Go.SL
open Go Go.RowKit Go.Proofs
open Go.EV (bsOf b2s_run works19 pure_ret spA mmV mm_run)
variable {ro : Option Nat} {P : Program} {T : TT} {ops : Array Oper} {Q : Exit → Act → World → Prop} {w z : World} {ss : List HL} {nt : Nat} {ds : List Deferred} {env env' : Env} {Kp : Env → World → Prop} {k : Nat}

def bstr (l : List UInt8) : ByteArray := l.foldl ByteArray.push .empty
theorem bsOf_enc : ∀ l : List UInt8, bsOf (l.flatMap encB) = some l
  | [] => rfl
  | b :: l => by
    show bsOf (.int .u8 ((b.toNat : Nat) : Int) :: l.flatMap encB) = _
    simp [bsOf, bsOf_enc l]
theorem run_toStr (hT : TOK P T) {s d el : TypeId} {e e2 g : TE} (hs : T s = some e) (h1 : e.d = .slice el) (hd : T d = some e2) (h2 : e2.d = .string) (hg : T el = some g) (h3 : g.d = .int .u8) {l : List UInt8} {x : Value} (hsrc : Src P w 1 x l.length (l.flatMap encB)) :
    (convert s d x).run P w = .ok (.string (bstr l)) w := by
  have u1 := run_und hT hs w
  have u2 := run_und hT hd w
  have u3 := run_und hT hg w
  rw [h1] at u1; rw [h2] at u2; rw [h3] at u3
  obtain ⟨⟨q, c, rfl⟩, hread⟩ := hsrc
  have hl' := bsOf_enc l
  have h0 := hread w rfl
  simp only [convert, Sem.run_bind, u1, u2, u3, Result.andThen]
  cases q with
  | none =>
    have hz : l.flatMap encB = [] := by
      have : (Builtin.firstCells 1 l.length (.slice none l.length c)).run P w = .ok #[] w := rfl
      rw [this] at h0
      simp only [Result.ok.injEq, and_true] at h0
      have := congrArg Array.toList h0
      simpa using this.symm
    have hl0 : l = [] := by
      cases l with
      | nil => rfl
      | cons b l => simp [encB] at hz
    subst hl0
    rfl
  | some a =>
    have hld : (loadCells a l.length).run P w = .ok (l.flatMap encB).toArray w := by
      have e1 : Builtin.firstCells 1 l.length (.slice (some a) l.length c) = loadCells a (l.length * 1) := rfl
      rw [e1, Nat.mul_one] at h0
      exact h0
    simp only [Conv.bytesToString, Sem.run_bind, hld, Result.andThen, List.forIn_toArray]
    have hb := b2s_run (P := P) (w := w) _ l .empty hl'
    split
    · rename_i a1 w1 heq
      have := hb.symm.trans heq
      injection this with e1 e2
      subst e1; subst e2; rfl
    · rename_i heq
      have := hb.symm.trans heq
      cases this
theorem toStr_op (hT : TOK P T) {s d el : TypeId} {e e2 g : TE} (hs : T s = some e) (h1 : e.d = .slice el) (hd : T d = some e2) (h2 : e2.d = .string) (hg : T el = some g) (h3 : g.d = .int .u8) {l : List UInt8} {xv : Value} (hsrc : Src P w 1 xv l.length (l.flatMap encB))
    {o : Oper} {x : Operand} {a : Act} (hf : Fr nt ds env a) (hop : o.op = .convert s d x) (hx : evO env x = some xv) : (execOp a.eval o).run P w = .ok (.value (.string (bstr l))) w := by
  obtain ⟨dst, op', type, pos, after, guard⟩ := o
  simp only at hop
  subst hop
  simp only [execOp, hf.ev hx, Sem.run_bind, run_toStr hT hs h1 hd h2 hg h3 hsrc, Result.andThen, Sem.run_pure]
theorem O_toStr (hT : TOK P T) (l : List UInt8) {xv : Value} (hsrc : Src P w 1 xv l.length (l.flatMap encB)) {o : Oper} {d' s d el : TypeId} {e e2 g : TE} {x : Operand} (h : Kp ((d', .string (bstr l)) :: env) w)
    (ho : ops[k]? = some o := by rfl) (hop : o.op = .convert s d x := by rfl) (hd' : o.dst = some d' := by rfl) (hlt : Nat.blt d' nt = true := by rfl) (hw : wantE ops nt env o = some true := by as_aux_lemma => kernel_rfl)
    (hx : evO env x = some xv := by as_aux_lemma => kernel_rfl)
    (hs : T s = some e := by rfl) (h1 : e.d = .slice el := by rfl) (hd : T d = some e2 := by rfl) (h2 : e2.d = .string := by rfl) (hg : T el = some g := by rfl) (h3 : g.d = .int .u8 := by rfl) : OE ro P ops Q k nt ds env w Kp :=
  O_val ho hd' hlt hw (fun _ hf => toStr_op hT hs h1 hd h2 hg h3 hsrc hf hop hx) h

theorem O_strEq {s1 s2 : ByteArray} {o : Oper} {d : Nat} {t u : TypeId} {ox oy : Operand} (h : Kp ((d, .bool (s1.toList == s2.toList)) :: env) w)
    (ho : ops[k]? = some o := by rfl) (hop : o.op = .binOp .eql t ox oy u := by rfl) (hd : o.dst = some d := by rfl) (hlt : Nat.blt d nt = true := by rfl) (hw : wantE ops nt env o = some true := by as_aux_lemma => kernel_rfl)
    (hx : evO env ox = some (.string s1) := by as_aux_lemma => kernel_rfl) (hy : evO env oy = some (.string s2) := by as_aux_lemma => kernel_rfl) : OE ro P ops Q k nt ds env w Kp := by
  refine O_val ho hd hlt hw (fun a hf => ?_) h
  obtain ⟨dst, op, type, pos, after, guard⟩ := o
  simp only at hop
  subst hop
  simp only [execOp, hf.ev hx, hf.ev hy, eqGuard, binOp, Op.stringOp]
  rfl

theorem O_min {a b : Int} {kk : IntKind} {v : Value} {o : Oper} {d : Nat} {ox oy : Operand} {ts : Array TypeId} (hv : mmV false (.int kk a) (.int kk b) = some v) (h : Kp ((d, v) :: env) w)
    (ho : ops[k]? = some o := by rfl) (hop : o.op = .call { callee := .builtin .min, args := #[ox, oy], argTypes := ts } := by rfl) (hd : o.dst = some d := by rfl) (hlt : Nat.blt d nt = true := by rfl) (hw : wantE ops nt env o = some true := by as_aux_lemma => kernel_rfl)
    (hx : evO env ox = some (.int kk a) := by as_aux_lemma => kernel_rfl) (hy : evO env oy = some (.int kk b) := by as_aux_lemma => kernel_rfl) : OE ro P ops Q k nt ds env w Kp := by
  refine O_val ho hd hlt hw (fun ac hf => ?_) h
  obtain ⟨dst, op, type, pos, after, guard⟩ := o
  simp only at hop
  subst hop
  have hr := mm_run (P := P) hv ts type w
  simp only [Bool.false_eq_true, if_false] at hr
  simp only [execOp, resolve, List.map_toArray, List.map_cons, List.map_nil, hf.ev hx, hf.ev hy, Sem.run_bind, Sem.run_pure, Result.andThen, invoke, builtin, hr]

theorem works_c {z w : World} {L : HL} {et : TypeId} (h0 : (0, Obj.cells spA et (0, 0)) ∈ L) (hw : Own z w [L]) : Ret Tryz.prog 15 #[] w (fun v w' => v = .bool true ∧ Own z w' [L]) :=
  pure_ret works19.pure hw h0
theorem bstr_self (l : List UInt8) : ((bstr l).toList == (bstr l).toList) = true := by simp
end Go.SL
