import Derived.Test.YtkfkfpgnapncaaaGreatDoorSlN
/-! More operations: panics, type assertions, slices of slices and of strings, copies, new slices, maps with strings' keys. -/
namespace Go.SL
open Go Go.RowKit
variable {ro : Option Nat} {P : Program} {T : TT} {ops : Array Oper} {Q : Exit → Act → World → Prop} {w z : World} {ss : List HL} {nt : Nat} {ds : List Deferred} {env env' : Env} {Kp : Env → World → Prop} {k : Nat}

/-! ### Panics -/
theorem O_panic {t : TypeId} {v : Value} {o : Oper} {x : Operand} (h : QE Q (.panic [{ v := .iface t v, recovered := false }]) nt ds env w) (ho : ops[k]? = some o := by rfl) (hop : o.op = .panic x := by rfl)
    (hw : wantE ops nt env o = some true := by as_aux_lemma => kernel_rfl) (hx : evO env x = some (.iface t v) := by as_aux_lemma => kernel_rfl) : OE ro P ops Q k nt ds env w Kp := by
  intro K a hf hK
  have hr : (execOp a.eval o).run P w = .halt (.panic (.iface t v)) w := by
    obtain ⟨dst, op, type, pos, after, guard⟩ := o
    simp only at hop
    subst hop
    simp only [execOp, hf.ev hx, Instr.panic, Sem.run_bind]
    rfl
  have hwb := hf.want hw
  unfold opW
  simp only [ho]
  unfold wantB at hwb
  rw [if_pos hwb]
  refine ⟨fun _ _ => trivial, ?_⟩
  rw [semAt_run (fun c hc => by rw [hop] at hc; cases hc), hr]
  exact h a hf

/-! ### x.(T), of a type that is no interface, with the second result -/
def notIface : TypeDesc → Bool
  | .interface _ => false
  | _ => true
def assertV (at_ : TypeId) (zv : Value) : Value → Option Value
  | .nilIface => some (.tuple #[zv, .bool false])
  | .iface t v => some (bif Nat.beq t at_ then .tuple #[v, .bool true] else .tuple #[zv, .bool false])
  | _ => none
theorem O_assert (hT : TOK P T) (u : Value) {o : Oper} {d : Nat} {x : Operand} {xt at_ : TypeId} {e : TE} {zv xv : Value} (h : Kp ((d, u) :: env) w) (ho : ops[k]? = some o := by rfl) (hop : o.op = .typeAssert x xt at_ true := by rfl) (hd : o.dst = some d := by rfl) (hlt : Nat.blt d nt = true := by rfl)
    (hw : wantE ops nt env o = some true := by as_aux_lemma => kernel_rfl) (hx : evO env x = some xv := by as_aux_lemma => kernel_rfl) (ht : T at_ = some e := by rfl) (hz : e.zero = some zv := by rfl) (hi : notIface e.d = true := by rfl) (hu : assertV at_ zv xv = some u := by as_aux_lemma => kernel_rfl) : OE ro P ops Q k nt ds env w Kp := by
  refine O_val ho hd hlt hw (fun a hf => ?_) h
  obtain ⟨dst, op, type, pos, after, guard⟩ := o
  simp only at hop
  subst hop
  have hun := run_und hT ht w
  have hzr := run_zero hT ht hz w
  simp only [execOp, hf.ev hx, Instr.typeAssert, Sem.run_bind, hun, Result.andThen]
  cases xv <;> simp only [assertV, reduceCtorEq, Option.some.injEq] at hu
  case nilIface =>
    subst hu
    cases hd' : e.d <;> simp_all [notIface]
  case iface t v =>
    cases hb : Nat.beq t at_ with
    | true =>
      have := Nat.eq_of_beq_eq_true hb
      subst this
      rw [hb] at hu
      simp only [cond_true] at hu
      subst hu
      cases hd' : e.d <;> simp_all [notIface]
    | false =>
      have hne : t ≠ at_ := fun e => by subst e; simp at hb
      rw [hb] at hu
      simp only [cond_false] at hu
      subst hu
      cases hd' : e.d <;> simp_all [notIface]

/-! ### x[l:h:m] -/
def bndV (env : Env) (o : Option Operand) (d : Int) : Option Int :=
  match o with
  | none => some d
  | some x => match evO env x with
    | some (.int _ i) => some i
    | _ => none

theorem run_bound {a : Act} (hf : Fr nt ds env a) {x : Operand} {d i : Int} (n y : Nat) (code : BoundsCode) (hb : bndV env (some x) d = some i) (hi : i = (n : Int)) (hn : n ≤ y) (w : World) : (Instr.sliceBound (a.eval x) y code).run P w = .ok n w := by
  simp only [bndV] at hb
  split at hb
  · rename_i kk j hx
    simp only [Option.some.injEq] at hb
    subst hb
    subst hi
    have h1 : (0 : Int) ≤ (n : Int) ∧ (n : Int) ≤ (y : Int) := ⟨Int.natCast_nonneg n, Int.ofNat_le.2 hn⟩
    simp only [Instr.sliceBound, hf.ev hx, asIntOf, Sem.run_bind, Sem.run_pure, Result.andThen, h1, and_self, if_true, Int.toNat_natCast]
  · simp at hb

theorem run_bounds {a : Act} (hf : Fr nt ds env a) {lo hi mx : Option Operand} {li hI mi : Int} {isS : Bool} {n c : Nat} (l h m : Nat)
    (hl : bndV env lo 0 = some li) (hh : bndV env hi n = some hI) (hm : bndV env mx c = some mi) (el : li = (l : Int)) (eh : hI = (h : Int)) (em : mi = (m : Int))
    (h1 : l ≤ h) (h2 : h ≤ m) (h3 : m ≤ c) (hmh : (mx.isSome && hi.isNone) = false) (w : World) :
    (Instr.sliceBounds isS n c (lo.map a.eval) (hi.map a.eval) (mx.map a.eval)).run P w = .ok (l, h, m) w := by
  have em' : mx = none → m = c := fun h0 => by
    subst h0
    simp only [bndV, Option.some.injEq] at hm
    omega
  have el' : lo = none → l = 0 := fun h0 => by
    subst h0
    simp only [bndV, Option.some.injEq] at hl
    omega
  have eh' : hi = none → h = n := fun h0 => by
    subst h0
    simp only [bndV, Option.some.injEq] at hh
    omega
  have bm : ∀ x, mx = some x → ∀ code, (Instr.sliceBound (a.eval x) c code).run P w = .ok m w := fun x h0 code => by subst h0; exact run_bound hf m c code hm em h3 w
  have bh : ∀ x, hi = some x → ∀ code, (Instr.sliceBound (a.eval x) m code).run P w = .ok h w := fun x h0 code => by subst h0; exact run_bound hf h m code hh eh h2 w
  have bl : ∀ x, lo = some x → ∀ code, (Instr.sliceBound (a.eval x) h code).run P w = .ok l w := fun x h0 code => by subst h0; exact run_bound hf l h code hl el h1 w
  clear hl hh hm
  cases mx with
  | none =>
    obtain rfl := em' rfl
    cases hi with
    | none =>
      obtain rfl := eh' rfl
      cases lo with
      | none =>
        obtain rfl := el' rfl
        simp only [Instr.sliceBounds, Option.map_none, Sem.run_bind, Sem.run_pure, Result.andThen]
      | some x => simp only [Instr.sliceBounds, Option.map_none, Option.map_some, Sem.run_bind, Sem.run_pure, Result.andThen, bl x rfl]
    | some y =>
      cases lo with
      | none =>
        obtain rfl := el' rfl
        simp only [Instr.sliceBounds, Option.map_none, Option.map_some, Sem.run_bind, Sem.run_pure, Result.andThen, bh y rfl]
      | some x => simp only [Instr.sliceBounds, Option.map_none, Option.map_some, Sem.run_bind, Sem.run_pure, Result.andThen, bl x rfl, bh y rfl]
  | some u =>
    cases hi with
    | none => simp at hmh
    | some y =>
      cases lo with
      | none =>
        obtain rfl := el' rfl
        simp only [Instr.sliceBounds, Option.map_none, Option.map_some, Sem.run_bind, Sem.run_pure, Result.andThen, bh y rfl, bm u rfl]
      | some x => simp only [Instr.sliceBounds, Option.map_none, Option.map_some, Sem.run_bind, Sem.run_pure, Result.andThen, bl x rfl, bh y rfl, bm u rfl]

/-- Of a slice. -/
theorem O_slice (hT : TOK P T) (l h m : Nat) {n c : Nat} {p : Option Addr} {o : Oper} {d : Nat} {t el : TypeId} {e g : TE} {x : Operand} {lo hi mx : Option Operand} {li hI mi : Int} (el_ : li = (l : Int)) (eh : hI = (h : Int)) (em : mi = (m : Int)) (h1 : l ≤ h) (h2 : h ≤ m) (h3 : m ≤ c)
    (hk : Kp ((d, .slice (if m = l then p else p.map (·.add (l * g.size))) (h - l) (m - l)) :: env) w)
    (ho : ops[k]? = some o := by rfl) (hop : o.op = .slice t x lo hi mx := by rfl) (hd : o.dst = some d := by rfl) (hlt : Nat.blt d nt = true := by rfl) (hw : wantE ops nt env o = some true := by as_aux_lemma => kernel_rfl)
    (hx : evO env x = some (.slice p n c) := by as_aux_lemma => kernel_rfl) (hl : bndV env lo 0 = some li := by rfl) (hh : bndV env hi n = some hI := by rfl) (hm : bndV env mx c = some mi := by rfl) (hmh : (mx.isSome && hi.isNone) = false := by rfl)
    (ht : T t = some e := by rfl) (hde : e.d = .slice el := by rfl) (hg : T el = some g := by rfl) : OE ro P ops Q k nt ds env w Kp := by
  refine O_val ho hd hlt hw (fun a hf => ?_) hk
  obtain ⟨dst, op, type, pos, after, guard⟩ := o
  simp only at hop
  subst hop
  have hu := run_und hT ht w
  rw [hde] at hu
  simp only [execOp, hf.ev hx, Instr.sliceAt, Instr.slice, Sem.run_bind, hu, Result.andThen, run_bounds hf l h m hl hh hm el_ eh em h1 h2 h3 hmh, run_size hT hg, Sem.run_pure]
/-- Of an array behind a pointer. -/
theorem O_sliceA (hT : TOK P T) (l h m : Nat) {n : Nat} {ad : Addr} {o : Oper} {d : Nat} {t at_ el : TypeId} {e ea g : TE} {x : Operand} {lo hi mx : Option Operand} {li hI mi : Int} (el_ : li = (l : Int)) (eh : hI = (h : Int)) (em : mi = (m : Int)) (h1 : l ≤ h) (h2 : h ≤ m) (h3 : m ≤ n)
    (hk : Kp ((d, .slice (some (if m = l then ad else ad.add (l * g.size))) (h - l) (m - l)) :: env) w)
    (ho : ops[k]? = some o := by rfl) (hop : o.op = .slice t x lo hi mx := by rfl) (hd : o.dst = some d := by rfl) (hlt : Nat.blt d nt = true := by rfl) (hw : wantE ops nt env o = some true := by as_aux_lemma => kernel_rfl)
    (hx : evO env x = some (.pointer (some ad)) := by as_aux_lemma => kernel_rfl) (hl : bndV env lo 0 = some li := by rfl) (hh : bndV env hi n = some hI := by rfl) (hm : bndV env mx n = some mi := by rfl) (hmh : (mx.isSome && hi.isNone) = false := by rfl)
    (ht : T t = some e := by rfl) (hde : e.d = .pointer at_ := by rfl) (hta : T at_ = some ea := by rfl) (hdea : ea.d = .array n el := by rfl) (hg : T el = some g := by rfl) : OE ro P ops Q k nt ds env w Kp := by
  refine O_val ho hd hlt hw (fun a hf => ?_) hk
  obtain ⟨dst, op, type, pos, after, guard⟩ := o
  simp only at hop
  subst hop
  have hu := run_und hT ht w
  rw [hde] at hu
  have hua := run_und hT hta w
  rw [hdea] at hua
  simp only [execOp, hf.ev hx, Instr.sliceAt, Instr.slice, Sem.run_bind, hu, hua, Result.andThen, asAddr, run_bounds hf l h m hl hh hm el_ eh em h1 h2 h3 hmh, run_size hT hg, Sem.run_pure]
/-- Of an array, the pointer being sure. -/
theorem O_sliceB (hT : TOK P T) (l h m : Nat) {n : Nat} {ad : Addr} {o : Oper} {d : Nat} {t el : TypeId} {e g : TE} {x : Operand} {lo hi mx : Option Operand} {li hI mi : Int} (el_ : li = (l : Int)) (eh : hI = (h : Int)) (em : mi = (m : Int)) (h1 : l ≤ h) (h2 : h ≤ m) (h3 : m ≤ n)
    (hk : Kp ((d, .slice (some (if m = l then ad else ad.add (l * g.size))) (h - l) (m - l)) :: env) w)
    (ho : ops[k]? = some o := by rfl) (hop : o.op = .slice t x lo hi mx := by rfl) (hd : o.dst = some d := by rfl) (hlt : Nat.blt d nt = true := by rfl) (hw : wantE ops nt env o = some true := by as_aux_lemma => kernel_rfl)
    (hx : evO env x = some (.pointer (some ad)) := by as_aux_lemma => kernel_rfl) (hl : bndV env lo 0 = some li := by rfl) (hh : bndV env hi n = some hI := by rfl) (hm : bndV env mx n = some mi := by rfl) (hmh : (mx.isSome && hi.isNone) = false := by rfl)
    (ht : T t = some e := by rfl) (hde : e.d = .array n el := by rfl) (hg : T el = some g := by rfl) : OE ro P ops Q k nt ds env w Kp := by
  refine O_val ho hd hlt hw (fun a hf => ?_) hk
  obtain ⟨dst, op, type, pos, after, guard⟩ := o
  simp only at hop
  subst hop
  have hu := run_und hT ht w
  rw [hde] at hu
  simp only [execOp, hf.ev hx, Instr.sliceAt, Instr.slice, Sem.run_bind, hu, Result.andThen, Instr.sureAddr, run_bounds hf l h m hl hh hm el_ eh em h1 h2 h3 hmh, run_size hT hg, Sem.run_pure]
/-- Of a string. -/
theorem O_sliceS (hT : TOK P T) (l h : Nat) {s : ByteArray} {o : Oper} {d : Nat} {t : TypeId} {e : TE} {x : Operand} {lo hi : Option Operand} {li hI : Int} (el_ : li = (l : Int)) (eh : hI = (h : Int)) (h1 : l ≤ h) (h2 : h ≤ s.size)
    (hk : Kp ((d, .string (s.extract l h)) :: env) w)
    (ho : ops[k]? = some o := by rfl) (hop : o.op = .slice t x lo hi none := by rfl) (hd : o.dst = some d := by rfl) (hlt : Nat.blt d nt = true := by rfl) (hw : wantE ops nt env o = some true := by as_aux_lemma => kernel_rfl)
    (hx : evO env x = some (.string s) := by as_aux_lemma => kernel_rfl) (hl : bndV env lo 0 = some li := by rfl) (hh : bndV env hi s.size = some hI := by rfl)
    (ht : T t = some e := by rfl) (hde : e.d = .string := by rfl) : OE ro P ops Q k nt ds env w Kp := by
  refine O_val ho hd hlt hw (fun a hf => ?_) hk
  obtain ⟨dst, op, type, pos, after, guard⟩ := o
  simp only at hop
  subst hop
  have hu := run_und hT ht w
  rw [hde] at hu
  have hb := run_bounds (P := P) (isS := false) hf (mx := none) l h s.size hl hh (mi := (s.size : Int)) (c := s.size) rfl el_ eh rfl h1 h2 (Nat.le_refl _) rfl w
  simp only [Option.map_none] at hb
  simp only [execOp, hf.ev hx, Instr.sliceAt, Instr.slice, Sem.run_bind, hu, Result.andThen, Option.map_none, Option.isSome_none, Bool.false_eq_true, if_false, hb, Sem.run_pure]
end Go.SL
