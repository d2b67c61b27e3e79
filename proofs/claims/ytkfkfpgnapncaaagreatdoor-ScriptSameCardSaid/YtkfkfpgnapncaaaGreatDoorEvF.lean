import Derived.Test.YtkfkfpgnapncaaaGreatDoorEvEq
set_option linter.unusedSimpArgs false
set_option linter.unusedVariables false
/-! What only looks: all of it; what lays a block. -/
noncomputable section
namespace Go.EV
open Go Go.RowKit Go.SL
variable {P : Program} {T : TT} {G : Nat} {ρ ρ' : Ren} {h : Hp} {n nt : Nat} {L : Nat → Option Obj} {z w : World} {env : En} {ro : Option Nat} {ops : Array Oper} {Q : Exit → Act → World → Prop} {k : Nat} {K : Act → World → Prop} {a : Act}

def evOpt (G : Nat) (env : En) : Option Operand → Option (Option Value)
  | none => some none
  | some x => match evO G env x with | some v => some (some v) | none => none
theorem evOpt_rel (hw : WR G T ρ h n L z w) (hs : SR ρ nt env a.tmps) {o : Option Operand} {u : Option Value} (hu : evOpt G env o = some u) : OVR ρ u (o.map a.eval) := by
  cases o with
  | none => simp only [evOpt, Option.some.injEq] at hu; subst hu; trivial
  | some x =>
    simp only [evOpt] at hu
    split at hu
    · rename_i v hv; simp only [Option.some.injEq] at hu; subst hu; exact ev_rel hw hs hv
    · simp at hu

theorem asV_rel {at_ : TypeId} {zv x x' u : Value} (hz : VR ρ zv zv) (h : assertV at_ zv x = some u) (hx : VR ρ x x') : ∃ u', assertV at_ zv x' = some u' ∧ VR ρ u u' := by
  cases hx <;> simp only [assertV, reduceCtorEq, Option.some.injEq] at h
  · subst h
    rename_i t v v' hv
    refine ⟨_, rfl, ?_⟩
    cases Nat.beq t at_
    · exact tup2 hz (.bool _)
    · exact tup2 hv (.bool _)
  · subst h; exact ⟨_, rfl, tup2 hz (.bool _)⟩

theorem run_assert (hT : TOK P T) {at_ xt : TypeId} {e : TE} {zv xv u : Value} (ht : T at_ = some e) (hz : e.zero = some zv) (hi : notIface e.d = true) (hu : assertV at_ zv xv = some u) (w : World) : (Instr.typeAssert xv xt at_ true).run P w = .ok u w := by
  have hun := run_und hT ht w
  have hzr := run_zero hT ht hz w
  simp only [Instr.typeAssert, Sem.run_bind, hun, Result.andThen]
  cases xv <;> simp only [assertV, reduceCtorEq, Option.some.injEq] at hu
  case nilIface =>
    subst hu
    cases hd' : e.d <;> simp_all [notIface]
  case iface t v =>
    cases hb : Nat.beq t at_ with
    | true =>
      have := Nat.eq_of_beq_eq_true hb
      subst this
      rw [hb] at hu
      simp only [cond_true] at hu
      subst hu
      cases hd' : e.d <;> simp_all [notIface]
    | false =>
      have hne : t ≠ at_ := fun e => by subst e; simp at hb
      rw [hb] at hu
      simp only [cond_false] at hu
      subst hu
      cases hd' : e.d <;> simp_all [notIface]

def natI : Int → Option Nat
  | .ofNat m => some m
  | _ => none

def strAt (s : ByteArray) (m : Nat) : Option UInt8 := s.data.toList[m]?

/-- '==' of strings. -/
def strB (op : BinOp) (a b : ByteArray) : Option Value :=
  match op with
  | .eql => some (.bool (a.toList == b.toList))
  | .neq => some (.bool (!(a.toList == b.toList)))
  | _ => none

/-- One operation that only looks, and is carried out. -/
def lookV (T : TT) (G : Nat) (E : List Nat) (env : En) (H : Tri AO) (o : Op) : Option Value :=
  match o with
  | .load t x => match evO G env x with
    | some (.pointer (some ⟨i, off, none⟩)) => match H.get i with
      | some (.cells cs _ _) => ldP T t cs off
      | some (.ro _) => ldP T t spA off
      | _ => none
    | _ => none
  | .lookup t m kx ok => match evO G env m, evO G env kx with
    | some mv, some kv => lkV T H t mv kv ok
    | _, _ => none
  | .slice t x lo hi mx => match evO G env x, evOpt G env lo, evOpt G env hi, evOpt G env mx with
    | some v, some l, some h, some m => slV T t v l h m
    | _, _, _, _ => none
  | .typeAssert x _ at_ ok => match ok, evO G env x, T at_ with
    | true, some v, some e => match e.zero, notIface e.d with
      | some zv, true => assertV at_ zv v
      | _, _ => none
    | _, _, _ => none
  | .index t x i => match evO G env x, evO G env i, T t with
    | some (.string s), some iv, some e => match e.d, ixN iv with
      | .string, some m => match strAt s m with
        | some c => some (.int .u8 c.toNat)
        | none => none
      | _, _ => none
    | some (.agg cs), some iv, _ => pv T (evD G env) (.index t x i)
    | _, _, _ => none
  | .binOp op t x y u => match evO G env x, evO G env y with
    | some (.string a), some (.string b) => strB op a b
    | some .nilIface, some .nilIface => match E.contains (t + 1000000), op, y with
      | true, .eql, .const _ => some (.bool true)
      | _, _, _ => none
    | some (.iface _ _), some .nilIface => match E.contains (t + 1000000), op with
      | true, .eql => some (.bool false)
      | _, _ => none
    | some (.agg xs), some (.agg ys) => match Nat.blt t 1000000 && E.contains t, op with
      | true, .eql => match eqA T E 10 t (.agg xs) (.agg ys) with | some b => some (.bool b) | none => none
      | true, .neq => match eqA T E 10 t (.agg xs) (.agg ys) with | some b => some (.bool (!b)) | none => none
      | _, _ => none
    | some _, some _ => pv T (evD G env) (.binOp op t x y u)
    | _, _ => none
  | o => match isCap o with
    | true => none
    | false => match allIn G env o with
      | true => pv T (evD G env) o
      | false => none

theorem pv_look (hT : TOK P T) (hZ : TZ T) (hw : WR G T ρ h n L z w) (hs : SR ρ nt env a.tmps) {o : Oper} {v : Value} (hc : isCap o.op = false) (hi : allIn G env o.op = true) (hv : pv T (evD G env) o.op = some v) :
    ∃ v', (execOp a.eval o).run P w = .ok (.value v') w ∧ VR ρ v v' := by
  obtain ⟨v', h1, h2⟩ := pv_rel hZ hc (ev_all hw hs hi) hv
  exact ⟨v', pv_sound hT h1 w, h2⟩

theorem lookV_ok (hT : TOK P T) (hZ : TZ T) {E : List Nat} (hE : AggOK P E) {H : Tri AO} (hw : WR G T ρ H.get n L z w) (hs : SR ρ nt env a.tmps) {o : Oper} {v : Value} (hv : lookV T G E env H o.op = some v) :
    ∃ v', (execOp a.eval o).run P w = .ok (.value v') w ∧ VR ρ v v' := by
  unfold lookV at hv
  split at hv
  · rename_i t x hop
    split at hv
    · rename_i i off hx
      split at hv
      · rename_i cs et op hH
        have hxr := ev_rel hw hs hx
        cases hxe : a.eval x <;> rw [hxe] at hxr <;> cases hxr
        rename_i b C hb
        obtain ⟨v', h1, h2⟩ := load_rel hT hw hH hb hv
        refine ⟨v', ?_, h2⟩
        obtain ⟨dst, op, type, pos, after, guard⟩ := o
        simp only at hop
        subst hop
        simp [execOp, hxe, Instr.loadAt, Instr.sureAddr, h1]
      · rename_i et hH
        have hxr := ev_rel hw hs hx
        cases hxe : a.eval x <;> rw [hxe] at hxr <;> cases hxr
        rename_i b C hb
        obtain ⟨v', h1, h2⟩ := load_ro hT hw hH hb hv
        refine ⟨v', ?_, h2⟩
        obtain ⟨dst, op, type, pos, after, guard⟩ := o
        simp only at hop
        subst hop
        simp [execOp, hxe, Instr.loadAt, Instr.sureAddr, h1]
      · simp at hv
    · simp at hv
  · rename_i t m kx ok hop
    split at hv
    · rename_i mv kv hm hk
      obtain ⟨v', h1, h2⟩ := lookup_rel hT hZ hw hv (ev_rel hw hs hm) (ev_rel hw hs hk)
      refine ⟨v', ?_, h2⟩
      obtain ⟨dst, op, type, pos, after, guard⟩ := o
      simp only at hop
      subst hop
      simp only [execOp, Sem.run_bind, h1, Result.andThen, Sem.run_pure]
    · simp at hv
  · rename_i t x lo hi mx hop
    split at hv
    · rename_i xv l h m hx hl hh hm
      obtain ⟨v', h1, h2⟩ := slice_rel hT hv (ev_rel hw hs hx) (evOpt_rel hw hs hl) (evOpt_rel hw hs hh) (evOpt_rel hw hs hm) w
      refine ⟨v', ?_, h2⟩
      obtain ⟨dst, op, type, pos, after, guard⟩ := o
      simp only at hop
      subst hop
      simp only [execOp, Sem.run_bind, h1, Result.andThen, Sem.run_pure]
    · simp at hv
  · rename_i x xt at_ ok hop
    split at hv
    · rename_i xv e hx ht
      split at hv
      · rename_i zv hz hi
        obtain ⟨v', h1, h2⟩ := asV_rel (scal2_vr (hZ _ _ _ ht hz)) hv (ev_rel hw hs hx)
        refine ⟨v', ?_, h2⟩
        obtain ⟨dst, op, type, pos, after, guard⟩ := o
        simp only at hop
        subst hop
        simp only [execOp, Sem.run_bind, run_assert hT ht hz hi h1, Result.andThen, Sem.run_pure]
      · simp at hv
    · simp at hv
  · rename_i t x i hop
    split at hv
    · rename_i s iv e hx hi ht
      split at hv
      · rename_i m hd hm
        split at hv
        · rename_i c hc
          simp only [Option.some.injEq] at hv; subst hv
          have hxr := ev_rel hw hs hx
          cases hxe : a.eval x <;> rw [hxe] at hxr <;> cases hxr
          have him := ixN_rel hm (ev_rel hw hs hi)
          obtain ⟨kk, hie⟩ := ixN_spec him
          refine ⟨_, ?_, .int _ _⟩
          obtain ⟨dst, op, type, pos, after, guard⟩ := o
          simp only at hop
          subst hop
          have hu := run_und hT ht w
          rw [hd] at hu
          have hj : s[m]? = some c := by
            unfold strAt at hc
            have hlt : m < s.data.toList.length := (List.getElem?_eq_some_iff.1 hc).1
            have hlt' : m < s.size := by
              rw [Array.length_toList] at hlt; exact hlt
            rw [getElem?_pos s m hlt']
            have := (List.getElem?_eq_some_iff.1 hc).2
            rw [← this]
            rfl
          simp [execOp, Instr.index, hxe, hie, asIntOf, hu, hj]
        · simp at hv
      · simp at hv
    · rename_i cs iv hx hi
      refine pv_look hT hZ hw hs (by rw [hop]; rfl) ?_ (by rw [hop]; exact hv)
      rw [hop]
      simp [allIn, Op.operands, hx, hi]
    · simp at hv
  · rename_i op t x y u hop
    split at hv
    · rename_i sa sb hx hy
      have hxr := ev_rel hw hs hx
      have hyr := ev_rel hw hs hy
      cases hxe : a.eval x <;> rw [hxe] at hxr <;> cases hxr
      cases hye : a.eval y <;> rw [hye] at hyr <;> cases hyr
      obtain ⟨dst, op, type, pos, after, guard⟩ := o
      simp only at hop
      subst hop
      unfold strB at hv
      split at hv
      · simp only [Option.some.injEq] at hv; subst hv
        refine ⟨_, ?_, .bool _⟩
        simp only [execOp, hxe, hye, eqGuard, binOp, Op.stringOp]
        rfl
      · simp only [Option.some.injEq] at hv; subst hv
        refine ⟨_, ?_, .bool _⟩
        simp only [execOp, hxe, hye, eqGuard, binOp, Op.stringOp]
        rfl
      · simp at hv
    · rename_i hx hy
      have hxr := ev_rel hw hs hx
      have hyr := ev_rel hw hs hy
      cases hxe : a.eval x <;> rw [hxe] at hxr <;> cases hxr
      cases hye : a.eval y <;> rw [hye] at hyr <;> cases hyr
      split at hv
      · rename_i hc
        simp only [Option.some.injEq] at hv; subst hv
        obtain ⟨ms, hms⟩ := hE.ifc t hc
        obtain ⟨dst, op', type, pos, after, guard⟩ := o
        simp only at hop
        subst hop
        refine ⟨_, ?_, .bool _⟩
        have he : (Op.equal t .nilIface .nilIface).run P w = .ok true w := by
          unfold Op.equal
          rw [show Op.maxDepth = 9999 + 1 from rfl]
          unfold Op.equalIn
          rw [Sem.run_bind, run_underlying hms]
          rfl
        have hg : (eqGuard .eql t x (.const ‹Value›) .nilIface .nilIface).run P w = .ok () w := by
          unfold eqGuard; simp
        simp only [execOp, hxe, hye, Sem.run_bind, hg, Result.andThen, binOp, he, Sem.run_pure]
      · simp at hv
    · rename_i ty vv hx hy
      have hxr := ev_rel hw hs hx
      have hyr := ev_rel hw hs hy
      cases hxe : a.eval x <;> rw [hxe] at hxr <;> cases hxr
      cases hye : a.eval y <;> rw [hye] at hyr <;> cases hyr
      split at hv
      · rename_i hc
        simp only [Option.some.injEq] at hv; subst hv
        obtain ⟨ms, hms⟩ := hE.ifc t hc
        obtain ⟨dst, op', type, pos, after, guard⟩ := o
        simp only at hop
        subst hop
        refine ⟨_, ?_, .bool _⟩
        have he : ∀ v', (Op.equal t (.iface ty v') .nilIface).run P w = .ok false w := fun v' => by
          unfold Op.equal
          rw [show Op.maxDepth = 9999 + 1 from rfl]
          unfold Op.equalIn
          rw [Sem.run_bind, run_underlying hms]
          rfl
        have hg : ∀ v', (eqGuard .eql t x y (.iface ty v') .nilIface).run P w = .ok () w := fun v' => by
          unfold eqGuard; simp
        simp only [execOp, hxe, hye, Sem.run_bind, hg, Result.andThen, binOp, he, Sem.run_pure]
      · simp at hv
    · rename_i xs ys hx hy
      have hxr := ev_rel hw hs hx
      have hyr := ev_rel hw hs hy
      have key : ∀ {b : Bool}, (Nat.blt t 1000000 && E.contains t) = true → eqA T E 10 t (.agg xs) (.agg ys) = some b → ∃ xs' ys', a.eval x = .agg xs' ∧ a.eval y = .agg ys' ∧ (∀ op, (eqGuard op t x y (.agg xs') (.agg ys')).run P w = .ok () w) ∧ (binOp .eql t (.agg xs') (.agg ys')).run P w = .ok (.bool b) w ∧ (binOp .neq t (.agg xs') (.agg ys')).run P w = .ok (.bool (!b)) w := fun {b} hc hq => by
        have hq' := eqA_rel hq hxr hyr
        cases hxe : a.eval x <;> rw [hxe] at hxr <;> cases hxr
        cases hye : a.eval y <;> rw [hye] at hyr <;> cases hyr
        rw [hxe, hye] at hq'
        have hr := eqA_run (w := w) hT hE 9990 hq'
        refine ⟨_, _, rfl, rfl, fun op => run_eqGuard_agg w op t x y _ _ (hE.agg t (by rw [Bool.and_eq_true] at hc; exact hc.1) (by rw [Bool.and_eq_true] at hc; exact hc.2)).1, ?_, ?_⟩
        · rw [run_eql_struct, hr]; rfl
        · rw [run_neq_struct, hr]; rfl
      obtain ⟨dst, op', type, pos, after, guard⟩ := o
      simp only at hop
      subst hop
      split at hv
      · rename_i hc
        split at hv
        · rename_i b hq
          simp only [Option.some.injEq] at hv; subst hv
          obtain ⟨xs', ys', e1, e2, g1, g2, g3⟩ := key hc hq
          refine ⟨_, ?_, .bool _⟩
          simp only [execOp, e1, e2, Sem.run_bind, g1, g2, Result.andThen, Sem.run_pure]
        · simp at hv
      · rename_i hc
        split at hv
        · rename_i b hq
          simp only [Option.some.injEq] at hv; subst hv
          obtain ⟨xs', ys', e1, e2, g1, g2, g3⟩ := key hc hq
          refine ⟨_, ?_, .bool _⟩
          simp only [execOp, e1, e2, Sem.run_bind, g1, g3, Result.andThen, Sem.run_pure]
        · simp at hv
      · simp at hv
    · rename_i va vb _ _ _ _ hx hy
      refine pv_look hT hZ hw hs (by rw [hop]; rfl) ?_ (by rw [hop]; exact hv)
      rw [hop]
      simp [allIn, Op.operands, hx, hy]
    · simp at hv
  · split at hv
    · simp at hv
    · rename_i hc
      split at hv
      · rename_i hi
        exact pv_look hT hZ hw hs hc hi hv
      · simp at hv
end Go.EV
