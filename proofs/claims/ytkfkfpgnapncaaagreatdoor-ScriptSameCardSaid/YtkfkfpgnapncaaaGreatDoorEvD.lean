import Derived.Test.YtkfkfpgnapncaaaGreatDoorEvC
set_option linter.unusedSimpArgs false
set_option linter.unusedVariables false
/-! What only looks, computed. -/
noncomputable section
namespace Go.EV
open Go Go.RowKit Go.SL
variable {P : Program} {T : TT} {G : Nat} {ρ ρ' : Ren} {h : Hp} {n nt : Nat} {L : Nat → Option Obj} {z w : World} {env : En} {ro : Option Nat} {ops : Array Oper} {Q : Exit → Act → World → Prop} {k : Nat} {K : Act → World → Prop} {a : Act}

def evO (G : Nat) (env : En) : Operand → Option Value
  | .tmp t => env.get t
  | .const v => match scal2 v with | true => some v | false => none
  | .global g => match Nat.blt g G with | true => some (.pointer (some ⟨g, 0, none⟩)) | false => none
  | .func f => some (.func (.func f) #[] #[])
def evD (G : Nat) (env : En) (x : Operand) : Value := (evO G env x).getD undef
def allIn (G : Nat) (env : En) (op : Op) : Bool := op.operands.toList.all fun x => (evO G env x).isSome

theorem ev_rel (hw : WR G T ρ h n L z w) (hs : SR ρ nt env a.tmps) {x : Operand} {v : Value} (hx : evO G env x = some v) : VR ρ v (a.eval x) := by
  cases x with
  | tmp t =>
    obtain ⟨v', h1, h2⟩ := hs.2 t v hx
    have : a.eval (.tmp t) = v' := by
      show a.tmps.getD t undef = v'
      rw [Array.getD_eq_getD_getElem?, h1]; rfl
    rw [this]; exact h2
  | const u =>
    simp only [evO] at hx
    split at hx
    · rename_i hc
      simp only [Option.some.injEq] at hx; subst hx
      exact scal2_vr hc
    · simp at hx
  | global g =>
    simp only [evO] at hx
    split at hx
    · rename_i hg
      simp only [Option.some.injEq] at hx; subst hx
      obtain ⟨C, hC⟩ := hw.gl g (Nat.lt_of_succ_le (Nat.le_of_ble_eq_true hg))
      exact .ptr hC
    · simp at hx
  | func f =>
    simp only [evO, Option.some.injEq] at hx; subst hx
    exact .fn (.func f) rfl (fun i x x' h => by simp at h) rfl (fun i x x' h => by simp at h)

theorem ev_all (hw : WR G T ρ h n L z w) (hs : SR ρ nt env a.tmps) {op : Op} (hi : allIn G env op = true) : ∀ x ∈ op.operands, VR ρ (evD G env x) (a.eval x) := fun x hx => by
  have := List.all_eq_true.1 hi x (by simpa using hx)
  obtain ⟨v, hv⟩ := Option.isSome_iff_exists.1 this
  unfold evD
  rw [hv]
  exact ev_rel hw hs hv

/-- Is the operation carried out? none: not known. -/
def wantE (ops : Array Oper) (env : En) (o : Oper) : Option Bool :=
  match o.guard with
  | none => some true
  | some (j, b) => match (ops[j]?).bind (·.dst) with
    | none => some false
    | some d => match env.get d with
      | some (.bool t) => some (t == b)
      | some (.tuple _) => some false
      | _ => none

theorem want_rel (hs : SR ρ nt env a.tmps) {o : Oper} {b : Bool} (hw : wantE ops env o = some b) : wantB ops a o = b := by
  unfold wantE at hw
  unfold wantB Region.wanted yielded
  split at hw
  · rename_i hg; rw [hg]; simpa using hw
  · rename_i j b' hg
    rw [hg]
    simp only
    cases hd : (ops[j]?).bind (·.dst) with
    | none => simp only [hd, Option.some.injEq] at hw; subst hw; rfl
    | some d =>
      simp only [hd] at hw
      split at hw
      · rename_i t ht
        obtain ⟨v', h1, h2⟩ := hs.2 d _ ht
        cases h2
        simp only [Option.some.injEq] at hw
        simp only [Option.bind_some, h1]
        exact hw
      · rename_i vs ht
        obtain ⟨v', h1, h2⟩ := hs.2 d _ ht
        simp only [Option.some.injEq] at hw; subst hw
        cases h2
        simp only [Option.bind_some, h1]
        rfl
      · simp at hw

/-! ### Reading -/
theorem ldP_rel {t : TypeId} {cs cs' : Array Value} {off : Nat} {v : Value} (h : ldP T t cs off = some v) (hc : AR ρ cs cs') (sp : Array Value) : ∃ v', ldP T t (cs' ++ sp) off = some v' ∧ VR ρ v v' := by
  unfold ldP at *
  cases ht : T t with
  | none => simp [ht] at h
  | some e =>
    simp only [ht] at h ⊢
    cases ha : aggD e.d with
    | true =>
      simp only [ha] at h ⊢
      by_cases hle : off + e.size ≤ cs.size
      · simp only [hle, decide_true, Option.some.injEq] at h
        subst h
        have hle' : off + e.size ≤ (cs' ++ sp).size := by rw [Array.size_append, ← hc.1]; omega
        simp only [hle', decide_true]
        have := hc.extract off (off + e.size)
        have he : (cs' ++ sp).extract off (off + e.size) = cs'.extract off (off + e.size) := by
          apply Array.ext_getElem?
          intro i
          rw [Array.getElem?_extract, Array.getElem?_extract]
          have hs : cs'.size = cs.size := hc.1.symm
          by_cases hi : i < e.size
          · rw [if_pos (by rw [Array.size_append]; omega), if_pos (by omega), Array.getElem?_append_left (by omega)]
          · rw [if_neg (by rw [Array.size_append]; omega), if_neg (by omega)]
        rw [he]
        exact ⟨_, rfl, .agg this.1 this.2⟩
      · simp [hle] at h
    | false =>
      simp only [ha] at h ⊢
      obtain ⟨x', h1, h2⟩ := hc.at h
      have hlt : off < cs'.size := (Array.getElem?_eq_some_iff.1 h1).1
      exact ⟨x', by rw [Array.getElem?_append_left hlt]; exact h1, h2⟩

theorem load_rel (hT : TOK P T) (hw : WR G T ρ h n L z w) {t : TypeId} {i b C off : Nat} {cs : Array Value} {et : TypeId} {op : Bool} {v : Value} (hi : h i = some (.cells cs et op)) (hb : ρ i = some (b, C)) (hv : ldP T t cs off = some v) :
    ∃ v', (loadVar t ⟨b, off, none⟩).run P w = .ok v' w ∧ VR ρ v v' := by
  obtain ⟨b', C', o', h1, h2, _, cs', sp, rfl, hc, _⟩ := hw.hp i _ hi
  rw [hb] at h1
  obtain ⟨rfl, rfl⟩ := Prod.mk.inj (Option.some.inj h1)
  obtain ⟨v', hv', hr⟩ := ldP_rel hv hc sp
  exact ⟨v', run_load_blk hT h2 hv', hr⟩

theorem load_ro (hT : TOK P T) (hw : WR G T ρ h n L z w) {t : TypeId} {i b C off : Nat} {et : TypeId} {v : Value} (hi : h i = some (.ro et)) (hb : ρ i = some (b, C)) (hv : ldP T t spA off = some v) :
    ∃ v', (loadVar t ⟨b, off, none⟩).run P w = .ok v' w ∧ VR ρ v v' := by
  obtain ⟨b', C', o', h1, h2, _, rfl⟩ := hw.hp i _ hi
  rw [hb] at h1
  obtain ⟨rfl, rfl⟩ := Prod.mk.inj (Option.some.inj h1)
  obtain ⟨v', hv', hr⟩ := ldP_rel (ρ := ρ) hv ar_spA #[]
  rw [Array.append_empty] at hv'
  exact ⟨v', run_load_blk hT h2 hv', hr⟩

/-! ### Maps -/
def lkA (d : TypeDesc) (kv : Value) : List (Value × Value) → Option (List Value)
  | [] => some []
  | p :: r => match lkA d kv r with
    | none => none
    | some l => match Instr.sameNow d kv p.1 with
      | some true => some (p.2 :: l)
      | some false => some l
      | none => none
def lkC (d : TypeDesc) (kv : Value) : List MapEntry → Option (List Value)
  | [] => some []
  | p :: r => match lkC d kv r with
    | none => none
    | some l => match Instr.sameNow d kv p.key with
      | some true => some (p.val :: l)
      | some false => some l
      | none => none
def VRs (ρ : Ren) : List Value → List Value → Prop
  | [], [] => True
  | x :: r, x' :: r' => VR ρ x x' ∧ VRs ρ r r'
  | _, _ => False
theorem lk_rel {d : TypeDesc} {kv : Value} : ∀ {es : List (Value × Value)} {es' : List MapEntry} {l : List Value}, MR ρ es es' → lkA d kv es = some l → ∃ l', lkC d kv es' = some l' ∧ VRs ρ l l'
  | [], [], l, _, hl => by simp only [lkA, Option.some.injEq] at hl; subst hl; exact ⟨[], rfl, trivial⟩
  | p :: r, e :: r', l, hm, hl => by
    obtain ⟨h1, h2, h3⟩ := hm
    simp only [lkA] at hl
    cases hr : lkA d kv r with
    | none => simp [hr] at hl
    | some l0 =>
      obtain ⟨l1, hl1, hv⟩ := lk_rel h3 hr
      simp only [hr] at hl
      simp only [lkC, hl1, ← h1]
      split at hl
      · rename_i hs; simp only [Option.some.injEq] at hl; subst hl; exact ⟨_, rfl, h2, hv⟩
      · rename_i hs; simp only [Option.some.injEq] at hl; subst hl; exact ⟨_, rfl, hv⟩
      · simp at hl
  | [], _ :: _, _, hm, _ => hm.elim
  | _ :: _, [], _, hm, _ => hm.elim
theorem lkC_perm {d : TypeDesc} {kv : Value} {es es' : List MapEntry} (hp : es.Perm es') : ∀ {l : List Value}, lkC d kv es = some l → ∃ l', lkC d kv es' = some l' ∧ l.Perm l' := by
  induction hp with
  | nil => intro l hl; exact ⟨l, hl, .refl _⟩
  | cons x _ ih =>
    intro l hl
    simp only [lkC] at hl ⊢
    split at hl
    · simp at hl
    · rename_i l0 hl0
      obtain ⟨l1, h1, h2⟩ := ih hl0
      rw [h1]
      split at hl
      · rename_i hs; simp only [Option.some.injEq] at hl; subst hl; simp only [hs]; exact ⟨_, rfl, h2.cons _⟩
      · rename_i hs; simp only [Option.some.injEq] at hl; subst hl; simp only [hs]; exact ⟨_, rfl, h2⟩
      · simp at hl
  | swap x y r =>
    intro l hl
    simp only [lkC] at hl ⊢
    cases h0 : lkC d kv r with
    | none => simp [h0] at hl
    | some l0 =>
      simp only [h0] at hl ⊢
      cases hx : Instr.sameNow d kv x.key with
      | none => cases hy : Instr.sameNow d kv y.key <;> simp [hx] at hl
      | some bx =>
        cases hy : Instr.sameNow d kv y.key with
        | none => cases bx <;> simp [hx, hy] at hl
        | some by_ =>
          cases bx <;> cases by_ <;> simp only [hx, hy, Option.some.injEq] at hl ⊢ <;> subst hl
          · exact ⟨_, rfl, .refl _⟩
          · exact ⟨_, rfl, .refl _⟩
          · exact ⟨_, rfl, .refl _⟩
          · exact ⟨_, rfl, .swap _ _ _⟩
  | trans _ _ ih1 ih2 =>
    intro l hl
    obtain ⟨l1, h1, p1⟩ := ih1 hl
    obtain ⟨l2, h2, p2⟩ := ih2 h1
    exact ⟨l2, h2, p1.trans p2⟩
theorem findNow_lk {d : TypeDesc} {kv : Value} : ∀ {es : List MapEntry} {l : List Value} (i : Nat), lkC d kv es = some l → ∃ r, Instr.findNow d kv es i = some r ∧ r.map (·.2) = l.head?
  | [], l, i, hl => by simp only [lkC, Option.some.injEq] at hl; subst hl; exact ⟨none, rfl, rfl⟩
  | e :: es, l, i, hl => by
    simp only [lkC] at hl
    split at hl
    · simp at hl
    · rename_i l0 hl0
      simp only [Instr.findNow]
      split at hl
      · rename_i hs; simp only [Option.some.injEq] at hl; subst hl; simp only [hs]; exact ⟨_, rfl, rfl⟩
      · rename_i hs; simp only [Option.some.injEq] at hl; subst hl; simp only [hs]; exact findNow_lk (i + 1) hl0
      · simp at hl

def finA (ok : Bool) (zv : Value) : Option (List Value) → Option Value
  | some [] => some (match ok with | true => .tuple #[zv, .bool false] | false => zv)
  | some [v] => some (match ok with | true => .tuple #[v, .bool true] | false => v)
  | _ => none
/-- A key that is asked for. -/
def lkV (T : TT) (h : Tri AO) (t : TypeId) (m kv : Value) (ok : Bool) : Option Value :=
  match T t with
  | some e => match e.d with
    | .map kt vt => match T kt, T vt with
      | some g, some gv => match plainKey g.d kv, gv.zero with
        | true, some zv =>
          match m with
          | .map none => finA ok zv (some [])
          | .map (some i) => match h.get i with
            | some (.map es _) => finA ok zv (lkA g.d kv es)
            | _ => none
          | _ => none
        | _, _ => none
      | _, _ => none
    | _ => none
  | none => none

theorem plainKey_vr {d : TypeDesc} {kv kv' : Value} (hp : plainKey d kv = true) (hv : VR ρ kv kv') : kv' = kv := by
  unfold plainKey at hp
  split at hp
  · cases hv; rfl
  · cases hv; rfl
  · simp at hp

theorem tup2 {u u' v v' : Value} (h1 : VR ρ u u') (h2 : VR ρ v v') : VR ρ (.tuple #[u, v]) (.tuple #[u', v']) := .tup rfl fun i x x' a b => by
  match i with
  | 0 => simp at a b; subst a; subst b; exact h1
  | 1 => simp at a b; subst a; subst b; exact h2
  | i + 2 => simp at a

theorem lookup_rel (hT : TOK P T) (hZ : TZ T) {H : Tri AO} (hw : WR G T ρ H.get n L z w) {t : TypeId} {m m' kv kv' v : Value} {ok : Bool} (hv : lkV T H t m kv ok = some v) (hm : VR ρ m m') (hk : VR ρ kv kv') :
    ∃ v', (Instr.lookup t m' kv' ok).run P w = .ok v' w ∧ VR ρ v v' := by
  unfold lkV at hv
  cases ht : T t with
  | none => simp [ht] at hv
  | some e =>
    simp only [ht] at hv
    split at hv
    · rename_i kt vt hd
      split at hv
      · rename_i g gv hg hgv
        split at hv
        · rename_i zv hp hz
          obtain rfl := plainKey_vr hp hk
          have hun := run_und hT ht w
          rw [hd] at hun
          have hku : ∀ w, (underlying kt).run P w = .ok g.d w := fun w => run_und hT hg w
          have hzv : VR ρ zv zv := scal2_vr (hZ _ _ _ hgv hz)
          have fin : ∀ (es : Array MapEntry) (l l' : List Value), lkC g.d kv' es.toList = some l' → l.length ≤ 1 → VRs ρ l l' → finA ok zv (some l) = some v → ∃ v', (do
                  let (v, ok') ← match ← Instr.findKey kt kv' es.toList with
                    | some (_, v) => pure (v, true)
                    | none => pure (← zeroValue vt, false)
                  pure (if ok then .tuple #[v, .bool ok'] else v) : Sem Value).run P w = .ok v' w ∧ VR ρ v v' := by
            intro es l l' hl hlen hvr hfin
            obtain ⟨r, hr1, hr2⟩ := findNow_lk 0 hl
            match l, l', hvr with
            | [], [], _ =>
              simp only [List.head?_nil, Option.map_eq_none_iff] at hr2
              subst hr2
              simp only [finA, Option.some.injEq] at hfin
              subst hfin
              refine ⟨if ok then .tuple #[zv, .bool false] else zv, ?_, ?_⟩
              · simp only [Instr.findKey, Sem.run_bind, hku, hr1, Result.andThen, run_zero hT hgv hz, Sem.run_pure]
              · cases ok
                · exact hzv
                · exact tup2 hzv (.bool _)
            | [x], [x'], hx =>
              simp only [List.head?_cons, Option.map_eq_some_iff] at hr2
              obtain ⟨⟨j, y⟩, rfl, rfl⟩ := hr2
              simp only [finA, Option.some.injEq] at hfin
              subst hfin
              refine ⟨if ok then .tuple #[y, .bool true] else y, ?_, ?_⟩
              · simp only [Instr.findKey, Sem.run_bind, hku, hr1, Result.andThen, Sem.run_pure]
              · cases ok
                · exact hx.1
                · exact tup2 hx.1 (.bool _)
            | _ :: _ :: _, _, _ => simp at hlen
          have hp' := fun b => run_checkKeyP (P := P) (b := b) hku hp
          split at hv
          · cases hm
            obtain ⟨v', h1, h2⟩ := fin #[] [] [] rfl (by simp) trivial hv
            refine ⟨v', ?_, h2⟩
            simp only [Instr.lookup, Sem.run_bind, hun, Result.andThen, Sem.run_pure, hp'] at h1 ⊢
            exact h1
          · rename_i i
            split at hv
            · rename_i es ord hes
              cases hm with
              | map hb =>
                obtain ⟨b', C', o', g1, g2, _, es', es'', c, rfl, hmr, hperm, _⟩ := hw.hp i _ hes
                rw [hb] at g1
                obtain ⟨rfl, rfl⟩ := Prod.mk.inj (Option.some.inj g1)
                cases hl : lkA g.d kv' es with
                | none => simp [hl, finA] at hv
                | some l =>
                  rw [hl] at hv
                  obtain ⟨l1, hl1, hv1⟩ := lk_rel hmr hl
                  obtain ⟨l2, hl2, hpl⟩ := lkC_perm hperm hl1
                  have hlen : l.length ≤ 1 := by
                    match l, hv with
                    | [], _ => simp
                    | [_], _ => simp
                    | _ :: _ :: _, hv => simp [finA] at hv
                  have hl12 : l1 = l2 := by
                    match l, l1, hv1, hlen with
                    | [], [], _, _ => exact (List.nil_perm.1 hpl).symm
                    | [_], [_], _, _ => exact (List.perm_singleton.1 hpl.symm).symm
                    | _ :: _ :: _, _, _, hlen => simp at hlen
                  subst hl12
                  obtain ⟨v', h1, h2⟩ := fin es' l l1 hl2 hlen hv1 hv
                  refine ⟨v', ?_, h2⟩
                  simp only [Instr.lookup, Sem.run_bind, hun, Result.andThen, Sem.run_pure, Go.SL.run_getObj_map g2, hp'] at h1 ⊢
                  exact h1
            · simp at hv
          · simp at hv
        · simp at hv
      · simp at hv
    · simp at hv
end Go.EV
