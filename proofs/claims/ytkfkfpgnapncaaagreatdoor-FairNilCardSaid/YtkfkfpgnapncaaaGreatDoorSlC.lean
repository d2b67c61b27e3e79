import Derived.Test.YtkfkfpgnapncaaaGreatDoorSlB
namespace Go.SL
open Go Go.RowKit
variable {P : Program} {T : TT}

theorem TOK.und (hT : TOK P T) {t : TypeId} {e : TE} (h : T t = some e) : P.underlying t = some e.d := (hT.ok t e h).1
theorem run_und (hT : TOK P T) {t : TypeId} {e : TE} (h : T t = some e) (w : World) : (underlying t).run P w = .ok e.d w := run_underlying (hT.und h) w
theorem run_size (hT : TOK P T) {t : TypeId} {e : TE} (h : T t = some e) (w : World) : (sizeOf t).run P w = .ok e.size w := by
  obtain ⟨_, i, hi, hs, _, _⟩ := hT.ok t e h
  simp [sizeOf, typeInfo, hi, hs]
theorem run_zero (hT : TOK P T) {t : TypeId} {e : TE} {z : Value} (h : T t = some e) (hz : e.zero = some z) (w : World) : (zeroValue t).run P w = .ok z w := by
  obtain ⟨_, i, hi, _, _, h3⟩ := hT.ok t e h
  rw [hz] at h3
  simp [zeroValue, typeInfo, hi, h3]
theorem run_isAgg (hT : TOK P T) {t : TypeId} {e : TE} (h : T t = some e) (w : World) : (isAgg t).run P w = .ok (aggD e.d) w := by
  unfold isAgg
  rw [Sem.run_bind, run_und hT h w]
  simp only [Result.andThen]
  cases e.d <;> rfl

theorem run_part (hT : TOK P T) {t : TypeId} {cs : Array Value} {off : Nat} {v : Value} (h : pPart T t cs off = some v) (w : World) :
    (part t cs off).run P w = .ok v w := by
  unfold pPart at h
  cases ht : T t with
  | none => simp [ht] at h
  | some e =>
    simp only [ht] at h
    unfold part
    rw [Sem.run_bind, run_isAgg hT ht w]
    simp only [Result.andThen]
    cases ha : aggD e.d with
    | true => simp only [ha, Option.some.injEq] at h; subst h; simp [run_size hT ht]
    | false => simp only [ha] at h; simp [h]

theorem pEq_sound {t : TypeId} {d : TypeDesc} {x y : Value} {b : Bool} (hu : P.underlying t = some d) (h : pEq d x y = some b) (w : World) :
    (Op.equal t x y).run P w = .ok b w := by
  have hr := run_underlying hu w
  unfold Op.equal
  rw [show Op.maxDepth = 9999 + 1 from rfl]
  unfold Op.equalIn
  rw [Sem.run_bind, hr]
  simp only [Result.andThen]
  unfold pEq at h
  split at h <;> simp only [Option.some.injEq, reduceCtorEq] at h <;> subst h <;> first | rfl | (rename_i a b; cases a <;> cases b <;> rfl)

theorem pEq_binOp {t : TypeId} {d : TypeDesc} {x y : Value} {b : Bool} (hu : P.underlying t = some d) (h : pEq d x y = some b) (hs : d ≠ .string) (w : World) :
    (binOp .eql t x y).run P w = .ok (.bool b) w ∧ (binOp .neq t x y).run P w = .ok (.bool !b) w := by
  have he := pEq_sound hu h w
  have h1 : binOp .eql t x y = (do pure (.bool (← Op.equal t x y))) := by
    unfold pEq at h
    split at h <;> first | rfl | (exact absurd rfl hs) | simp at h
  have h2 : binOp .neq t x y = (do pure (.bool (!(← Op.equal t x y)))) := by
    unfold pEq at h
    split at h <;> first | rfl | (exact absurd rfl hs) | simp at h
  rw [h1, h2]
  simp [he]

theorem pEq_guard {t : TypeId} {d : TypeDesc} {x y : Value} {b : Bool} {op : BinOp} {ox oy : Operand} (h : pEq d x y = some b) (w : World) :
    (eqGuard op t ox oy x y).run P w = .ok () w := by
  unfold pEq at h
  split at h <;> first | (simp at h; done) | (cases op <;> rfl)

theorem pInt_sound {op : BinOp} {k : IntKind} {t : TypeId} {a b : Int} {v : Value} (hs : isShift op = false) (h : pInt op k a b = some v) (w : World) :
    (binOp op t (.int k a) (.int k b)).run P w = .ok v w := by
  cases op <;> simp only [pInt, isShift, reduceCtorEq, Option.some.injEq] at h hs <;>
    first
      | (subst h; simp [binOp, Op.intArith, Op.intBits, Op.intCmp]; done)
      | (subst h; simp [binOp, Op.intArith, Op.intBits, Op.intCmp]; rfl)
      | (by_cases hb : b = 0
         · simp [hb] at h
         · simp only [hb, decide_false, Option.some.injEq] at h
           subst h
           simp [binOp, Op.intDiv, hb])

theorem pSh_sound {op : BinOp} {k k' : IntKind} {t : TypeId} {a b : Int} {v : Value} (h : pSh op k a b = some v) (w : World) :
    (binOp op t (.int k a) (.int k' b)).run P w = .ok v w := by
  unfold pSh at h
  by_cases hb : b < 0
  · simp [hb] at h
  · simp only [hb, decide_false] at h
    cases op <;> simp only [reduceCtorEq, Option.some.injEq] at h <;> subst h <;> simp [binOp, Op.shift, hb]

theorem pBin_sound (hT : TOK P T) {op : BinOp} {t : TypeId} {ox oy : Operand} {x y : Value} {v : Value} (h : pBin T op t x y = some v) (w : World) :
    (do eqGuard op t ox oy x y; binOp op t x y : Sem Value).run P w = .ok v w := by
  unfold pBin at h
  split at h
  · rename_i k a k' b
    have hg : (eqGuard op t ox oy (.int k a) (.int k' b)).run P w = .ok () w := by cases op <;> rfl
    simp only [Sem.run_bind, hg, Result.andThen]
    cases hs : isShift op with
    | true => simp only [hs] at h; exact pSh_sound h w
    | false =>
      simp only [hs] at h
      by_cases hk : k = k'
      · subst hk
        simp only [decide_true] at h
        exact pInt_sound hs h w
      · simp [hk] at h
  · cases ht : T t with
    | none => simp [ht] at h
    | some e =>
      simp only [ht] at h
      have hu := hT.und ht
      cases op <;> simp only [reduceCtorEq] at h
      · split at h
        · simp at h
        · rename_i hd
          rw [Option.map_eq_some_iff] at h
          obtain ⟨b, hb, rfl⟩ := h
          simp only [Sem.run_bind, pEq_guard hb w, Result.andThen, (pEq_binOp hu hb (fun e => hd e) w).1]
      · split at h
        · simp at h
        · rename_i hd
          rw [Option.map_eq_some_iff] at h
          obtain ⟨b, hb, rfl⟩ := h
          simp only [Sem.run_bind, pEq_guard hb w, Result.andThen, (pEq_binOp hu hb (fun e => hd e) w).2]

theorem run_fieldPlace (hT : TOK P T) {a : Addr} {f : Field} {g : TE} (hf : T f.type = some g) (h0 : g.size ≠ 0) (w : World) :
    (fieldPlace a f).run P w = .ok (a.add f.offset) w := by
  unfold fieldPlace
  rw [Sem.run_bind, run_size hT hf w]
  simp [Result.andThen, h0]

theorem mapM_places (hT : TOK P T) : ∀ (fs : List Field) (places : List (Nat × Nat)) (w : World), fs.mapM (fun f => (T f.type).map fun g => (f.offset, g.size)) = some places →
    (fs.mapM fun f => (do pure (f.offset, ← sizeOf f.type) : Sem (Nat × Nat))).run P w = .ok places w := by
  intro fs
  induction fs with
  | nil => intro places w h; simp at h; subst h; rfl
  | cons f fs ih =>
    intro places w h
    rw [List.mapM_cons] at h ⊢
    cases hf : T f.type with
    | none => simp [hf] at h
    | some g =>
      cases hr : fs.mapM (fun f => (T f.type).map fun g => (f.offset, g.size)) with
      | none => simp [hf, hr] at h
      | some r =>
        simp [hf, hr] at h
        subst h
        have h1 : (do pure (f.offset, ← sizeOf f.type) : Sem (Nat × Nat)).run P w = .ok (f.offset, g.size) w := by simp [run_size hT hf]
        rw [Sem.run_bind, h1]
        simp only [Result.andThen]
        rw [Sem.run_bind, ih r w hr]
        rfl

theorem pv_sound (hT : TOK P T) {o : Oper} {ρ : Operand → Value} {v : Value} (h : pv T ρ o.op = some v) (w : World) :
    (execOp ρ o).run P w = .ok (.value v) w := by
  obtain ⟨dst, op, type, pos, after, guard⟩ := o
  cases op <;> simp only [pv, reduceCtorEq] at h
  case move x => simp only [Option.some.injEq] at h; subst h; rfl
  case assign x => simp only [Option.some.injEq] at h; subst h; rfl
  case pick c x y =>
    split at h
    · rename_i t ht
      simp only [Option.some.injEq] at h; subst h
      simp [execOp, ht, asBool, pickV_eq]
    · simp at h
  case binOp op t x y ty =>
    have := pBin_sound hT (ox := x) (oy := y) h w
    simp only [execOp]
    rw [Sem.run_bind, this]
    rfl
  case unOp op t x =>
    split at h
    · rename_i b hb; simp only [Option.some.injEq] at h; subst h; simp [execOp, hb, Op.unary]
    · rename_i k n hb; simp only [Option.some.injEq] at h; subst h; simp [execOp, hb, Op.unary, Op.intArith]
    · rename_i k n hb; simp only [pInt, Option.some.injEq] at h; subst h; simp [execOp, hb, Op.unary, Op.intBits]
    · simp at h
  case convert s d x =>
    split at h
    · rename_i e1 e k n h1 h2 h3
      split at h
      · rename_i k' hk
        simp only [Option.some.injEq] at h; subst h
        have hu1 := run_und hT h1 w
        have hu2 := run_und hT h2 w
        rw [hk] at hu2
        simp only [execOp, h3, convert, Sem.run_bind, hu1, hu2, Result.andThen]
        cases e1.d <;> rfl
      · simp at h
    · simp at h
  case nilCheck x =>
    split at h
    · rename_i p hp; simp only [Option.some.injEq] at h; subst h; simp [execOp, hp]
    · rename_i f fs cs hp; simp only [Option.some.injEq] at h; subst h; simp [execOp, hp]
    · simp at h
  case fieldAddr t x i =>
    split at h
    · rename_i e p h1 h2
      split at h
      · rename_i fs hd
        split at h
        · rename_i f hf
          split at h
          · rename_i g hg
            split at h
            · simp at h
            · rename_i n hn
              simp only [Option.some.injEq] at h; subst h
              have hu := run_und hT h1 w
              rw [hd] at hu
              simp [execOp, Instr.fieldAt, hu, hf, h2, Instr.sureAddr, run_fieldPlace hT hg (by omega)]
          · simp at h
        · simp at h
      · simp at h
    · simp at h
  case field t x i =>
    split at h
    · rename_i e cs h1 h2
      split at h
      · rename_i fs hd
        split at h
        · rename_i f hf
          have hu := run_und hT h1 w
          rw [hd] at hu
          simp [execOp, Instr.field, hu, hf, h2, asAgg, run_part hT h]
        · simp at h
      · simp at h
    · simp at h
  case index t x i =>
    split at h
    · rename_i e cs k n h1 h2 h3
      split at h
      · rename_i len el hd
        split at h
        · rename_i g hg
          by_cases hb : 0 ≤ n ∧ n < len
          · simp only [hb, and_self, decide_true] at h
            have hu := run_und hT h1 w
            rw [hd] at hu
            simp [execOp, Instr.index, hu, h2, h3, asIntOf, hb, run_size hT hg, run_part hT h]
          · simp [hb] at h
        · simp at h
      · simp at h
    · simp at h
  case indexAddr t x i =>
    split at h
    · rename_i e vx k n h1 h3
      have hu := run_und hT h1 w
      split at h
      · rename_i len el p hd h2
        rw [hd] at hu
        split at h
        · rename_i g hg
          by_cases hb : 0 ≤ n ∧ n < len
          · simp only [hb, and_self, decide_true, Option.some.injEq] at h
            subst h
            simp [execOp, Instr.indexAt, hu, h2, h3, asIntOf, hb, run_size hT hg, Instr.sureAddr]
          · simp [hb] at h
        · simp at h
      · rename_i el p len cap hd h2
        rw [hd] at hu
        split at h
        · rename_i g hg
          by_cases hb : 0 ≤ n ∧ n < len
          · simp only [hb, and_self, decide_true, Option.some.injEq] at h
            subst h
            simp [execOp, Instr.indexAt, hu, h2, h3, asIntOf, hb, run_size hT hg]
          · simp [hb] at h
        · simp at h
      · simp at h
    · simp at h
  case extract x i =>
    split at h
    · rename_i vs hv
      simp [execOp, Instr.extract, hv, h]
    · simp at h
  case makeFunc fn f c => simp only [Option.some.injEq] at h; subst h; simp [execOp, Instr.makeFunc]
  case makeInterface t x =>
    cases ht : T t with
    | none => simp [ht] at h
    | some e =>
      simp only [ht] at h
      have hu := run_und hT ht w
      simp only [execOp, Instr.makeInterface, Sem.run_bind, hu, Result.andThen]
      cases hd : e.d <;> simp only [hd, reduceCtorEq, Option.some.injEq] at h <;> subst h <;> rfl
  case build t parts =>
    cases ht : T t with
    | none => simp [ht] at h
    | some e =>
      simp only [ht] at h
      have hu := run_und hT ht w
      cases hz : e.zero with
      | none => simp [hz] at h
      | some z =>
        simp only [hz] at h
        have hzr := run_zero hT ht hz w
        split at h
        · rename_i fs hd
          rw [hd] at hu
          split at h
          · rename_i places hp
            rw [Option.map_eq_some_iff] at h
            obtain ⟨cells, hc, rfl⟩ := h
            have hm := mapM_places hT _ _ w hp
            simp only [execOp, Instr.build, Sem.run_bind, hzr, hu, Result.andThen]
            have hm' : (fs.mapM fun f => (do pure (f.offset, ← sizeOf f.type) : Sem (Nat × Nat))).run P w = .ok places.toArray w := by
              rw [Array.mapM_eq_mapM_toList]
              show ((fs.toList.mapM _ >>= fun l => pure l.toArray) : Sem (Array (Nat × Nat))).run P w = _
              rw [Sem.run_bind, hm]
              rfl
            simp only [hm']
            have hpl : (fun x : Nat => places.toArray[x]?) = fun x : Nat => places[x]? := by funext i; simp
            rw [hpl, hc]
            rfl
          · simp at h
        · rename_i len el hd
          rw [hd] at hu
          split at h
          · rename_i g hg
            rw [Option.map_eq_some_iff] at h
            obtain ⟨cells, hc, rfl⟩ := h
            simp only [execOp, Instr.build, Sem.run_bind, hzr, hu, Result.andThen, run_size hT hg, hc]
            rfl
          · simp at h
        · simp at h
  case call c =>
    unfold pCall at h
    obtain ⟨callee, args, argTypes⟩ := c
    simp only at h
    cases callee with
    | value f => simp at h
    | invoke r m => simp at h
    | builtin b =>
      simp only at h
      split at h
      · rename_i t x h1 h2
        have hx : (args.map ρ)[0]? = some (ρ x) := by simp [h2]
        cases ht : T t with
        | none => simp [ht] at h
        | some e =>
          simp only [ht] at h
          have hu := run_und hT ht w
          cases b <;> simp only [reduceCtorEq] at h
          case len =>
            rw [Option.map_eq_some_iff] at h
            obtain ⟨n, hn, rfl⟩ := h
            have hr : (Builtin.len_ argTypes type (args.map ρ)).run P w = .ok (.int .i64 n) w := by
              unfold Builtin.len_
              rw [h1, hx]
              simp only [Sem.run_bind, hu, Result.andThen]
              clear hu hx ht h2
              generalize ρ x = vx at hn ⊢
              cases hd : e.d <;> cases vx <;> simp only [pLen, hd, reduceCtorEq, Option.some.injEq] at hn <;> subst hn <;> rfl
            simp [execOp, resolve, invoke, builtin, hr]
          case cap =>
            rw [Option.map_eq_some_iff] at h
            obtain ⟨n, hn, rfl⟩ := h
            have hr : (Builtin.cap_ argTypes type (args.map ρ)).run P w = .ok (.int .i64 n) w := by
              unfold Builtin.cap_
              rw [h1, hx]
              simp only [Sem.run_bind, hu, Result.andThen]
              clear hu hx ht h2
              generalize ρ x = vx at hn ⊢
              cases hd : e.d <;> cases vx <;> simp only [pCap, hd, reduceCtorEq, Option.some.injEq] at hn <;> subst hn <;> rfl
            simp [execOp, resolve, invoke, builtin, hr]
      · simp at h
end Go.SL
