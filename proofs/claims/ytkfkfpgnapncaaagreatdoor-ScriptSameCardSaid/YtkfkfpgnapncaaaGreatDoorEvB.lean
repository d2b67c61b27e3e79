import Derived.Test.YtkfkfpgnapncaaaGreatDoorEvA
set_option linter.unusedSimpArgs false
set_option linter.unusedVariables false
/-! What only computes, on values up to the places of blocks. -/
noncomputable section
namespace Go.EV
open Go Go.RowKit Go.SL
variable {ρ : Ren} {T : TT}

/-- Values in which no block is named. -/
def scal : Value → Bool
  | .bool _ | .int _ _ | .string _ | .pointer none | .map none | .nilFunc | .nilIface | .slice none _ _ => true
  | _ => false
theorem scal_vr {v : Value} (h : scal v = true) : VR ρ v v := by
  cases v with
  | bool b => exact .bool b
  | int k n => exact .int k n
  | string s => exact .str s
  | pointer a => cases a with
    | none => exact .ptr0
    | some a => simp [scal] at h
  | map r => cases r with
    | none => exact .map0
    | some a => simp [scal] at h
  | nilFunc => exact .nilF
  | nilIface => exact .nilI
  | slice a n c => cases a with
    | none => exact .sl0 n c
    | some a => simp [scal] at h
  | _ => simp [scal] at h

theorem pInt_scal {op : BinOp} {k : IntKind} {a b : Int} {v : Value} (h : pInt op k a b = some v) : scal v = true := by
  cases op <;> simp only [pInt, reduceCtorEq, Option.some.injEq] at h
  all_goals first
    | (subst h; rfl)
    | (split at h <;> simp only [reduceCtorEq, Option.some.injEq] at h; subst h; rfl)
theorem pSh_scal {op : BinOp} {k : IntKind} {a b : Int} {v : Value} (h : pSh op k a b = some v) : scal v = true := by
  unfold pSh at h
  split at h
  · simp at h
  · cases op <;> simp only [reduceCtorEq, Option.some.injEq] at h <;> subst h <;> rfl

theorem pEq_rel {d : TypeDesc} {x y x' y' : Value} {b : Bool} (h : pEq d x y = some b) (hx : VR ρ x x') (hy : VR ρ y y') : pEq d x' y' = some b := by
  unfold pEq at h
  split at h <;> simp only [Option.some.injEq, reduceCtorEq] at h <;> cases hx <;> cases hy <;> simp_all [pEq]

theorem pBin_rel {op : BinOp} {t : TypeId} {x y x' y' v : Value} (h : pBin T op t x y = some v) (hx : VR ρ x x') (hy : VR ρ y y') : ∃ v', pBin T op t x' y' = some v' ∧ VR ρ v v' := by
  unfold pBin at h ⊢
  split at h
  · rename_i k a k' b
    cases hx; cases hy
    refine ⟨v, h, scal_vr ?_⟩
    split at h
    · exact pSh_scal h
    · split at h
      · exact pInt_scal h
      · simp at h
  · rename_i hno
    split
    · cases hx; cases hy
      exact absurd rfl (hno _ _ _ _ rfl)
    · cases ht : T t with
      | none => simp [ht] at h
      | some e =>
        simp only [ht] at h ⊢
        cases op <;> simp only [reduceCtorEq] at h ⊢
        all_goals
          split at h
          · simp at h
          · rename_i hd
            rw [Option.map_eq_some_iff] at h
            obtain ⟨b, hb, rfl⟩ := h
            have hb' := pEq_rel hb hx hy
            refine ⟨_, ?_, .bool _⟩
            rw [hb']; rfl

theorem pLen_rel {d : TypeDesc} {x x' : Value} {n : Int} (h : pLen d x = some n) (hx : VR ρ x x') : pLen d x' = some n := by
  unfold pLen at h ⊢
  split at h
  · cases hx; exact h
  · cases hx <;> exact h
  · exact h
  · simp at h
theorem pPart_rel {t : TypeId} {cs cs' : Array Value} {off : Nat} {v : Value} (h : pPart T t cs off = some v) (hc : AR ρ cs cs') : ∃ v', pPart T t cs' off = some v' ∧ VR ρ v v' := by
  unfold pPart at *
  cases ht : T t with
  | none => simp [ht] at h
  | some e =>
    simp only [ht] at h ⊢
    cases ha : aggD e.d with
    | true =>
      simp only [ha, Option.some.injEq] at h ⊢
      subst h
      have := hc.extract off (off + e.size)
      exact ⟨_, rfl, .agg this.1 this.2⟩
    | false =>
      simp only [ha] at h ⊢
      obtain ⟨x', h1, h2⟩ := hc.at h
      exact ⟨x', h1, h2⟩

theorem pickV_rel {t : Bool} {x y x' y' : Value} (hx : VR ρ x x') (hy : VR ρ y y') : VR ρ (pickV t x y) (pickV t x' y') := by
  rw [pickV_eq, pickV_eq]
  cases t
  · exact hy
  · exact hx

theorem VR.add {i b off C : Nat} (h : ρ i = some (b, C)) (n : Nat) : VR ρ (.pointer (some ((⟨i, off, none⟩ : Addr).add n))) (.pointer (some ((⟨b, off, none⟩ : Addr).add n))) := by
  unfold Addr.add
  split
  · exact .ptr h
  · exact .ptr h

theorem foldl_rel (off : Nat) : ∀ (l l' : List (Value × Nat)) (cs cs' : Array Value), l.length = l'.length → (∀ (i : Nat) p p', l[i]? = some p → l'[i]? = some p' → p.2 = p'.2 ∧ VR ρ p.1 p'.1) → AR ρ cs cs' →
    AR ρ (l.foldl (fun cs (c, j) => cs.setIfInBounds (off + j) c) cs) (l'.foldl (fun cs (c, j) => cs.setIfInBounds (off + j) c) cs')
  | [], [], cs, cs', _, _, h => h
  | p :: l, p' :: l', cs, cs', hl, hp, h => by
    obtain ⟨e, hv⟩ := hp 0 _ _ rfl rfl
    simp only [List.foldl_cons]
    rw [← e]
    exact foldl_rel off l l' _ _ (by simpa using hl) (fun i p p' h1 h2 => hp (i + 1) p p' h1 h2) (h.set hv _)
  | [], _ :: _, _, _, hl, _, _ => by simp at hl
  | _ :: _, [], _, _, hl, _, _ => by simp at hl

theorem zipIdx_rel {cs cs' : Array Value} (h : AR ρ cs cs') (off : Nat) {ds ds' : Array Value} (hd : AR ρ ds ds') :
    AR ρ (cs.zipIdx.foldl (fun cs (c, j) => cs.setIfInBounds (off + j) c) ds) (cs'.zipIdx.foldl (fun cs (c, j) => cs.setIfInBounds (off + j) c) ds') := by
  rw [← Array.foldl_toList, ← Array.foldl_toList]
  refine foldl_rel off _ _ _ _ (by simp [h.1]) (fun i p p' h1 h2 => ?_) hd
  simp only [Array.toList_zipIdx, List.getElem?_zipIdx, Option.map_eq_some_iff] at h1 h2
  obtain ⟨x, hx, rfl⟩ := h1
  obtain ⟨x', hx', rfl⟩ := h2
  exact ⟨rfl, h.2 i x x' (by simpa using hx) (by simpa using hx')⟩

/-- Rows of parts. -/
def PsR (ρ : Ren) : List (Nat × Value) → List (Nat × Value) → Prop
  | [], [] => True
  | p :: r, p' :: r' => p.1 = p'.1 ∧ VR ρ p.2 p'.2 ∧ PsR ρ r r'
  | _, _ => False

theorem fill_rel {place : Nat → Option (Nat × Nat)} : ∀ (ps ps' : List (Nat × Value)) (cs cs' out : Array Value), PsR ρ ps ps' → AR ρ cs cs' →
    Instr.fill place cs ps = some out → ∃ out', Instr.fill place cs' ps' = some out' ∧ AR ρ out out'
  | [], [], cs, cs', out, _, hc, h => by
    simp only [Instr.fill, Option.some.injEq] at h ⊢; subst h; exact ⟨_, rfl, hc⟩
  | (i, v) :: r, (i', v') :: r', cs, cs', out, hp, hc, h => by
    obtain ⟨e, hv, hr⟩ := hp
    simp only at e hv
    subst e
    have hvc := hv.cells
    simp only [Instr.fill] at h ⊢
    cases hpl : place i with
    | none => simp [hpl] at h
    | some q =>
      obtain ⟨off, size⟩ := q
      simp only [hpl] at h ⊢
      rw [← hvc.1, ← hc.1]
      split at h
      · simp at h
      · rename_i hif
        rw [if_neg hif]
        exact fill_rel r r' _ _ out hr (zipIdx_rel hvc off hc) h
  | [], _ :: _, _, _, _, hp, _, _ => hp.elim
  | _ :: _, [], _, _, _, hp, _, _ => hp.elim

theorem scalT_vr {v : Value} (h : scal v = true) : VR ρ v v := scal_vr h
/-- Constants: no block is named, aggregates of such. -/
def scal2 : Value → Bool
  | .agg cs => cs.toList.all scal
  | .tuple cs => cs.toList.all scal
  | .iface _ v => scal v
  | .func (.func _) fs cs => fs.toList.all scal && cs.toList.all scal
  | v => scal v
theorem all_ar {cs : Array Value} (h : cs.toList.all scal = true) : AR ρ cs cs := ⟨rfl, fun i x x' h1 h2 => by
  rw [h1] at h2
  obtain rfl := Option.some.inj h2
  have := List.all_eq_true.1 h x (by
    have := List.mem_of_getElem? (l := cs.toList) (i := i) (a := x) (by simpa using h1)
    exact this)
  exact scal_vr this⟩
theorem scal2_vr {v : Value} (h : scal2 v = true) : VR ρ v v := by
  unfold scal2 at h
  split at h
  · have := all_ar (ρ := ρ) h; exact .agg this.1 this.2
  · have := all_ar (ρ := ρ) h; exact .tup this.1 this.2
  · exact .iface _ (scal_vr h)
  · rw [Bool.and_eq_true] at h
    have h1 := all_ar (ρ := ρ) h.1
    have h2 := all_ar (ρ := ρ) h.2
    exact .fn (.func _) h1.1 h1.2 h2.1 h2.2
  · exact scal_vr h
/-- The zero values of the types are such. -/
def TZ (T : TT) : Prop := ∀ t e z, T t = some e → e.zero = some z → scal2 z = true

def isCap : Op → Bool
  | .makeFunc (.func _) _ _ => false
  | .makeFunc _ _ _ => true
  | .call c => match c.callee with | .builtin .cap => true | _ => false
  | _ => false

theorem mem1 {x : Operand} {op : Op} (h : op.operands = #[x]) : x ∈ op.operands := by rw [h]; simp
theorem mem2a {x y : Operand} {op : Op} (h : op.operands = #[x, y]) : x ∈ op.operands := by rw [h]; simp
theorem mem2b {x y : Operand} {op : Op} (h : op.operands = #[x, y]) : y ∈ op.operands := by rw [h]; simp

theorem ar_map {r r' : Operand → Value} {xs : Array Operand} (H : ∀ x ∈ xs, VR ρ (r x) (r' x)) : AR ρ (xs.map r) (xs.map r') := ⟨by simp, fun i x x' h1 h2 => by
  rw [Array.getElem?_map, Option.map_eq_some_iff] at h1 h2
  obtain ⟨u, hu, rfl⟩ := h1
  obtain ⟨u', hu', rfl⟩ := h2
  rw [hu] at hu'
  obtain rfl := Option.some.inj hu'
  exact H u (Array.mem_of_getElem? hu)⟩

theorem psr_map {r r' : Operand → Value} : ∀ (xs : List (Nat × Operand)), (∀ p ∈ xs, VR ρ (r p.2) (r' p.2)) → PsR ρ (xs.map fun (i, x) => (i, r x)) (xs.map fun (i, x) => (i, r' x))
  | [], _ => trivial
  | p :: xs, H => ⟨rfl, H p List.mem_cons_self, psr_map xs fun q hq => H q (List.mem_cons_of_mem _ hq)⟩

theorem pv_rel (hZ : TZ T) {op : Op} {r r' : Operand → Value} {v : Value} (hc : isCap op = false) (H : ∀ x ∈ op.operands, VR ρ (r x) (r' x)) (h : pv T r op = some v) : ∃ v', pv T r' op = some v' ∧ VR ρ v v' := by
  cases op <;> simp only [pv, reduceCtorEq] at h ⊢
  case move x => simp only [Option.some.injEq] at h; subst h; exact ⟨_, rfl, H x (mem1 rfl)⟩
  case assign x => simp only [Option.some.injEq] at h; subst h; exact ⟨_, rfl, H x (mem1 rfl)⟩
  case pick c x y =>
    have hm : (Op.pick c x y).operands = #[c, x, y] := rfl
    have hC := H c (by rw [hm]; simp)
    split at h
    · rename_i t ht
      rw [ht] at hC
      simp only [Option.some.injEq] at h; subst h
      cases hC' : r' c <;> rw [hC'] at hC <;> cases hC
      exact ⟨_, rfl, pickV_rel (H x (by rw [hm]; simp)) (H y (by rw [hm]; simp))⟩
    · simp at h
  case binOp op t x y ty => exact pBin_rel h (H x (mem2a rfl)) (H y (mem2b rfl))
  case unOp op t x =>
    have hX := H x (mem1 rfl)
    generalize r x = vx at h hX
    generalize r' x = vx' at hX ⊢
    split at h
    · rename_i b
      simp only [Option.some.injEq] at h; subst h; cases hX; exact ⟨_, rfl, .bool _⟩
    · rename_i k n
      simp only [Option.some.injEq] at h; subst h; cases hX; exact ⟨_, rfl, .int _ _⟩
    · rename_i k n
      cases hX; exact ⟨_, h, scal_vr (pInt_scal h)⟩
    · simp at h
  case convert s d x =>
    have hX := H x (mem1 rfl)
    generalize r x = vx at h hX
    generalize r' x = vx' at hX ⊢
    split at h
    · rename_i e1 e k n h1 h2
      split at h
      · rename_i k' hk
        simp only [Option.some.injEq] at h; subst h; cases hX
        simp only [h1, h2, hk]
        exact ⟨_, rfl, .int _ _⟩
      · simp at h
    · simp at h
  case nilCheck x =>
    have hX := H x (mem1 rfl)
    generalize r x = vx at h hX
    generalize r' x = vx' at hX ⊢
    split at h
    · rename_i p
      simp only [Option.some.injEq] at h; subst h
      cases hX with
      | ptr hi => exact ⟨_, rfl, .ptr hi⟩
    · rename_i f fs cs
      simp only [Option.some.injEq] at h; subst h
      cases hX with
      | fn hf h1 h2 h3 h4 => cases hf with | func f => exact ⟨_, rfl, .fn (.func _) h1 h2 h3 h4⟩
    · simp at h
  case fieldAddr t x i =>
    have hX := H x (mem1 rfl)
    generalize r x = vx at h hX
    generalize r' x = vx' at hX ⊢
    split at h
    · rename_i e p h1
      split at h
      · rename_i fs hd
        split at h
        · rename_i f hf
          split at h
          · rename_i g hg
            split at h
            · simp at h
            · rename_i n hn
              simp only [Option.some.injEq] at h; subst h
              cases hX with
              | ptr hi => simp only [h1, hd, hf, hg, hn]; exact ⟨_, rfl, VR.add hi _⟩
          · simp at h
        · simp at h
      · simp at h
    · simp at h
  case field t x i =>
    have hX := H x (mem1 rfl)
    generalize r x = vx at h hX
    generalize r' x = vx' at hX ⊢
    split at h
    · rename_i e cs h1
      split at h
      · rename_i fs hd
        split at h
        · rename_i f hf
          cases hX with
          | agg ha hb => simp only [h1, hd, hf]; exact pPart_rel h ⟨ha, hb⟩
        · simp at h
      · simp at h
    · simp at h
  case index t x i =>
    have hX := H x (mem2a rfl)
    have hI := H i (mem2b rfl)
    generalize r x = vx at h hX
    generalize r' x = vx' at hX ⊢
    generalize r i = vi at h hI
    generalize r' i = vi' at hI ⊢
    split at h
    · rename_i e cs k n h1
      split at h
      · rename_i len el hd
        split at h
        · rename_i g hg
          split at h
          · rename_i hb
            cases hX with
            | agg ha hb' =>
              cases hI
              simp only [h1, hd, hg, hb]
              exact pPart_rel h ⟨ha, hb'⟩
          · simp at h
        · simp at h
      · simp at h
    · simp at h
  case indexAddr t x i =>
    have hX := H x (mem2a rfl)
    have hI := H i (mem2b rfl)
    generalize r x = vx at h hX
    generalize r' x = vx' at hX ⊢
    generalize r i = vi at h hI
    generalize r' i = vi' at hI ⊢
    split at h
    · rename_i e k n h1
      cases hI
      split at h
      · rename_i len el p hd
        split at h
        · rename_i g hg
          split at h
          · rename_i hb
            simp only [Option.some.injEq] at h; subst h
            cases hX with
            | ptr hi => simp only [h1, hd, hg, hb]; exact ⟨_, rfl, VR.add hi _⟩
          · simp at h
        · simp at h
      · rename_i el p len cap hd
        split at h
        · rename_i g hg
          split at h
          · rename_i hb
            simp only [Option.some.injEq] at h; subst h
            cases hX with
            | sl hi hcap hn => simp only [h1, hd, hg, hb]; exact ⟨_, rfl, VR.add hi _⟩
            | sle a c' =>
              exfalso
              have := of_decide_eq_true hb
              omega
          · simp at h
        · simp at h
      · simp at h
    · simp at h
  case extract x i =>
    have hX := H x (mem1 rfl)
    generalize r x = vx at h hX
    generalize r' x = vx' at hX ⊢
    split at h
    · rename_i vs
      cases hX with
      | tup ha hb => exact (AR.at ⟨ha, hb⟩ h)
    · simp at h
  case makeFunc fn f c =>
    simp only [Option.some.injEq] at h; subst h
    have h1 := ar_map (ρ := ρ) (r := r) (r' := r') (xs := f) fun x hx => H x (by show x ∈ f ++ c; exact Array.mem_append_left _ hx)
    have h2 := ar_map (ρ := ρ) (r := r) (r' := r') (xs := c) fun x hx => H x (by show x ∈ f ++ c; exact Array.mem_append_right _ hx)
    cases fn <;> first | exact ⟨_, rfl, .fn (.func _) h1.1 h1.2 h2.1 h2.2⟩ | (simp [isCap] at hc)
  case makeInterface t x =>
    have hX := H x (mem1 rfl)
    cases ht : T t with
    | none => simp [ht] at h
    | some e =>
      simp only [ht] at h ⊢
      split at h
      · simp at h
      · rename_i hd
        simp only [Option.some.injEq] at h; subst h
        refine ⟨.iface t (r' x), ?_, .iface t hX⟩
        rename_i dd
        cases dd <;> first | rfl | exact absurd rfl (hd _)
  case build t parts =>
    have hps : PsR ρ (parts.map fun (i, x) => (i, r x)).toList (parts.map fun (i, x) => (i, r' x)).toList := by
      have := psr_map (ρ := ρ) (r := r) (r' := r') parts.toList fun p hp => H p.2 (by
        show p.2 ∈ ((parts.toList.map (·.2)).toArray)
        simp only [List.mem_toArray, List.mem_map]
        exact ⟨p, hp, rfl⟩)
      simpa using this
    cases ht : T t with
    | none => simp [ht] at h
    | some e =>
      simp only [ht] at h ⊢
      cases hz : e.zero with
      | none => simp [hz] at h
      | some z =>
        simp only [hz] at h ⊢
        have hzr : AR ρ z.cells z.cells := (scal2_vr (hZ t e z ht hz)).cells
        split at h
        · rename_i fs hd
          split at h
          · rename_i places hp
            rw [Option.map_eq_some_iff] at h
            obtain ⟨cells, hcl, rfl⟩ := h
            obtain ⟨out', ho, hr⟩ := fill_rel _ _ _ _ _ hps hzr hcl
            simp only [hd, hp, ho]
            exact ⟨_, rfl, .agg hr.1 hr.2⟩
          · simp at h
        · rename_i len el hd
          split at h
          · rename_i g hg
            rw [Option.map_eq_some_iff] at h
            obtain ⟨cells, hcl, rfl⟩ := h
            obtain ⟨out', ho, hr⟩ := fill_rel _ _ _ _ _ hps hzr hcl
            simp only [hd, hg, ho]
            exact ⟨_, rfl, .agg hr.1 hr.2⟩
          · simp at h
        · simp at h
  case call c =>
    unfold pCall at h ⊢
    obtain ⟨callee, args, argTypes⟩ := c
    simp only at h ⊢
    cases callee with
    | value f => simp at h
    | invoke a m => simp at h
    | builtin b =>
      simp only at h ⊢
      split at h
      · rename_i t x h1 h2
        have hX := H x (by
          show x ∈ (#[] ++ args : Array Operand)
          simpa using Array.mem_of_getElem? h2)
        split
        · rename_i e ht
          simp only [ht] at h
          cases b <;> simp only [reduceCtorEq] at h
          case len =>
            rw [Option.map_eq_some_iff] at h
            obtain ⟨n, hn, rfl⟩ := h
            refine ⟨.int .i64 n, ?_, .int _ _⟩
            show Option.map (Value.int .i64) (pLen e.d (r' x)) = _
            rw [pLen_rel hn hX]
            rfl
          case cap => simp [isCap] at hc
        · rename_i ht
          simp [ht] at h
      · simp at h
end Go.EV
