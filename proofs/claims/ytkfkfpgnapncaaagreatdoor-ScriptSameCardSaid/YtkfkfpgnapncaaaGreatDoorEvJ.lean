import Derived.Test.YtkfkfpgnapncaaaGreatDoorEvI
set_option linter.unusedSimpArgs false
set_option linter.unusedVariables false
/-! Operations that act; a region's operations one behind the other. -/
noncomputable section
namespace Go.EV
open Go Go.RowKit Go.SL
variable {P : Program} {T : TT} {G : Nat} {ρ ρ' : Ren} {h : Hp} {n nt : Nat} {L : Nat → Option Obj} {z w : World} {env : En} {ro : Option Nat} {ops : Array Oper} {Q : Exit → Act → World → Prop} {k : Nat} {K : Act → World → Prop} {a : Act}

/-! ### copy, min, max -/
def copyV (T : TT) (H : Tri AO) (t : TypeId) (x y : Value) : Option (Value × Tri AO) :=
  match T t with
  | some e => match e.d with
    | .slice el => match T el, x, y with
      | some g, .slice p dl _, .slice q sl c =>
        let m := Nat.min sl dl
        match srcV H g.size (.slice q m c) with
        | some (m', news) => match m' with
          | 0 => some (.int .i64 0, H)
          | _ + 1 => match p with
            | some ⟨i, off, none⟩ => match H.get i with
              | some (.cells cs et op) => match Nat.ble (off + news.length) cs.size && Tri.fits i && news.all Value.oneCell' with
                | true => some (.int .i64 (m' : Int), H.set i (some (.cells (spl cs off news) et op)))
                | false => none
              | _ => none
            | _ => none
        | none => none
      | _, _, _ => none
    | _ => none
  | none => none

theorem vr_slice {q : Option Addr} {m c : Nat} {y' : Value} (h : VR ρ (.slice q m c) y') : ∃ q' c', y' = .slice q' m c' ∧ ∀ m', m' ≤ m → VR ρ (.slice q m' c) (.slice q' m' c') := by
  cases h with
  | sl0 n c => exact ⟨_, _, rfl, fun m' _ => .sl0 _ _⟩
  | sl hb hc hn => exact ⟨_, _, rfl, fun m' hm => .sl hb hc (by omega)⟩
  | sle a c' => exact ⟨_, _, rfl, fun m' hm => by
      have h0 : m' = 0 := by omega
      subst h0
      exact .sle _ _⟩

theorem copy_rel (hT : TOK P T) {H H' : Tri AO} (hw : WR G T ρ H.get n L z w) {t t2 : TypeId} {x x' y y' v : Value} (hx : VR ρ x x') (hy : VR ρ y y') (hc : copyV T H t x y = some (v, H')) (ty : TypeId) :
    ∃ v' w', (Builtin.copy_ #[t, t2] ty #[x', y']).run P w = .ok v' w' ∧ VR ρ v v' ∧ WR G T ρ H'.get n L z w' := by
  unfold copyV at hc
  cases ht : T t with
  | none => simp [ht] at hc
  | some e =>
    simp only [ht] at hc
    split at hc
    · rename_i el hd
      have hu := run_und hT ht w
      rw [hd] at hu
      split at hc
      · rename_i g p dl dc q sl c hg
        obtain ⟨q', c', rfl, hq⟩ := vr_slice hy
        obtain ⟨p', dc', rfl, hp⟩ := vr_slice hx
        have hq := hq (Nat.min sl dl) (Nat.min_le_left _ _)
        split at hc
        · rename_i m' news hs
          obtain ⟨news', hn, hl, hsrc⟩ := src_rel (P := P) hw hs hq
          have hm : m' = Nat.min sl dl := by obtain ⟨_, _, e⟩ := hsrc.1; simp only [Value.slice.injEq] at e; exact e.2.1.symm
          have hfc : (Builtin.firstCells g.size (Nat.min sl dl) (.slice q' sl c')).run P w = .ok news'.toArray w := by
            have h0 := hsrc.2 w rfl
            rw [← h0, hm]
            cases q' <;> rfl
          have hrun : (Builtin.copy_ #[t, t2] ty #[.slice p' dl dc', .slice q' sl c']).run P w = (do
              if let some a := p' then storeCells a news'
              pure (goInt m') : Sem Value).run P w := by
            have hsz := run_size hT hg w
            have e1 : (#[t, t2] : Array TypeId)[0]? = some t := rfl
            have e2 : (#[Value.slice p' dl dc', .slice q' sl c'] : Array Value)[0]? = some (.slice p' dl dc') := rfl
            have e3 : (#[Value.slice p' dl dc', .slice q' sl c'] : Array Value)[1]? = some (.slice q' sl c') := rfl
            unfold Builtin.copy_
            rw [e1, e2, e3]
            simp only [Sem.run_bind, hu, Result.andThen, Builtin.lenOf, Sem.run_pure, hsz, hfc, hm]
            cases p' <;> rfl
          split at hc
          · simp only [Option.some.injEq, Prod.mk.injEq] at hc
            obtain ⟨rfl, rfl⟩ := hc
            have h0 : news' = [] := List.eq_nil_of_length_eq_zero (by have := (LR.of hn).1; rw [hl] at this; simpa using this.symm)
            refine ⟨_, w, hrun.trans ?_, .int _ _, hw⟩
            rw [h0]
            cases p' <;> simp [storeCells, goInt]
          · rename_i m2
            split at hc
            · rename_i i off
              split at hc
              · rename_i cs et op hi
                split at hc
                · rename_i hcc
                  simp only [Bool.and_eq_true] at hcc
                  obtain ⟨⟨c1, c2⟩, c3⟩ := hcc
                  simp only [Option.some.injEq, Prod.mk.injEq] at hc
                  obtain ⟨rfl, rfl⟩ := hc
                  cases hx with
                  | sle a0 c0 => exact absurd c2 (by decide)
                  | sl hb _ _ =>
                    obtain ⟨w', h1, h2⟩ := stores_rel (P := P) (off := off) hw hi hb hn c3 (Nat.le_of_ble_eq_true c1)
                    refine ⟨_, w', hrun.trans ?_, .int _ _, h2.conv (upd_set c2)⟩
                    simp only [Sem.run_bind, h1, Result.andThen, Sem.run_pure]
                    rfl
                · simp at hc
              · simp at hc
            · simp at hc
        · simp at hc
      · simp at hc
    · simp at hc

def mmV (mx : Bool) (x y : Value) : Option Value :=
  match x, y with
  | .int k a, .int _ b => some (.int k (match mx with | true => (match decide (b > a) with | true => b | false => a) | false => (match decide (b < a) with | true => b | false => a)))
  | _, _ => none
theorem mm_run {mx : Bool} {x y v : Value} (h : mmV mx x y = some v) (ts : Array TypeId) (ty : TypeId) (w : World) : (if mx then Builtin.max_ ts ty #[x, y] else Builtin.min_ ts ty #[x, y]).run P w = .ok v w := by
  unfold mmV at h
  split at h
  · rename_i k a k' b
    simp only [Option.some.injEq] at h; subst h
    cases mx
    · by_cases hb : b < a <;> simp [Builtin.min_, Builtin.min2, hb]
    · by_cases hb : b > a <;> simp [Builtin.max_, Builtin.max2, hb]
  · simp at h
theorem mm_rel {mx : Bool} {x y x' y' v : Value} (h : mmV mx x y = some v) (hx : VR ρ x x') (hy : VR ρ y y') : mmV mx x' y' = some v ∧ VR ρ v v := by
  unfold mmV at h
  split at h
  · simp only [Option.some.injEq] at h; subst h
    cases hx; cases hy
    exact ⟨rfl, .int _ _⟩
  · simp at h

/-! ### Bytes as a string -/
def bsOf : List Value → Option (List UInt8)
  | [] => some []
  | v :: r => match v, bsOf r with
    | .int .u8 m, some l => some (UInt8.ofNat m.toNat :: l)
    | _, _ => none
theorem bsOf_rel : ∀ {l l' : List Value} {r : List UInt8}, VRs ρ l l' → bsOf l = some r → bsOf l' = some r
  | [], [], _, _, h => h
  | v :: l, v' :: l', r, hv, h => by
    simp only [bsOf] at h ⊢
    split at h
    · rename_i m l0 hl0
      cases hv.1
      rw [bsOf_rel hv.2 hl0]
      exact h
    · simp at h
  | [], _ :: _, _, hv, _ => hv.elim
  | _ :: _, [], _, hv, _ => hv.elim
theorem b2s_run : ∀ (l : List Value) (r : List UInt8) (s : ByteArray), bsOf l = some r → (forIn l s (fun c (s : ByteArray) => match c with
      | .int .u8 n => pure (ForInStep.yield (s.push (UInt8.ofNat n.toNat)))
      | _ => do
        stuck "bytesToString: byte expected"
        pure (ForInStep.yield s)) : Sem ByteArray).run P w = .ok (r.foldl ByteArray.push s) w
  | [], r, s, h => by simp only [bsOf, Option.some.injEq] at h; subst h; rfl
  | v :: l, r, s, h => by
    simp only [bsOf] at h
    split at h
    · rename_i m l0 hl0
      simp only [Option.some.injEq] at h; subst h
      rw [List.forIn_cons]
      exact b2s_run l l0 _ hl0
    · simp at h
def cvV (T : TT) (H : Tri AO) (s d : TypeId) (v : Value) : Option Value :=
  match T s, T d with
  | some e, some e2 => match e.d, e2.d with
    | .slice el, .string => match T el with
      | some g => match g.d, srcV H 1 v with
        | .int .u8, some (_, news) => match bsOf news with
          | some l => some (.string (l.foldl ByteArray.push .empty))
          | none => none
        | _, _ => none
      | none => none
    | _, _ => none
  | _, _ => none
theorem VRs.of_ar' : ∀ {l l' : List Value}, AR ρ l.toArray l'.toArray → VRs ρ l l'
  | [], [], _ => trivial
  | x :: l, x' :: l', h => ⟨h.2 0 x x' (by simp) (by simp), VRs.of_ar' ⟨by simpa using h.1, fun i y y' a b => h.2 (i + 1) y y' (by simpa using a) (by simpa using b)⟩⟩
  | [], _ :: _, h => by simpa using h.1
  | _ :: _, [], h => by simpa using h.1
theorem cv_rel (hT : TOK P T) {H : Tri AO} (hw : WR G T ρ H.get n L z w) {s d : TypeId} {x x' v : Value} (hx : VR ρ x x') (hv : cvV T H s d x = some v) : (convert s d x').run P w = .ok v w ∧ VR ρ v v := by
  unfold cvV at hv
  split at hv
  · rename_i e e2 hs hd
    split at hv
    · rename_i el h1 h2
      split at hv
      · rename_i g hg
        split at hv
        · rename_i m news h3 hsrc
          split at hv
          · rename_i l hl
            simp only [Option.some.injEq] at hv; subst hv
            refine ⟨?_, .str _⟩
            have u1 := run_und hT hs w
            have u2 := run_und hT hd w
            have u3 := run_und hT hg w
            rw [h1] at u1; rw [h2] at u2; rw [h3] at u3
            obtain ⟨news', hn, _, ⟨q, c, rfl⟩, hread⟩ := src_rel (P := P) hw hsrc hx
            have hl' := bsOf_rel (VRs.of_ar' hn) hl
            have h0 := hread w rfl
            simp only [convert, Sem.run_bind, u1, u2, u3, Result.andThen]
            cases q with
            | none =>
              have hz : news' = [] := by
                have : (Builtin.firstCells 1 m (.slice none m c)).run P w = .ok #[] w := rfl
                rw [this] at h0
                simp only [Result.ok.injEq, and_true] at h0
                have := congrArg Array.toList h0
                simpa using this.symm
              subst hz
              simp only [bsOf, Option.some.injEq] at hl'; subst hl'
              rfl
            | some a =>
              have hld : (loadCells a m).run P w = .ok news'.toArray w := by
                have e1 : Builtin.firstCells 1 m (.slice (some a) m c) = loadCells a (m * 1) := rfl
                rw [e1, Nat.mul_one] at h0
                exact h0
              simp only [Conv.bytesToString, Sem.run_bind, hld, Result.andThen, List.forIn_toArray]
              have hb := b2s_run (P := P) (w := w) news' l .empty hl'
              split
              · rename_i a1 w1 heq
                have := hb.symm.trans heq
                injection this with e1 e2
                subst e1; subst e2; rfl
              · rename_i heq
                have := hb.symm.trans heq
                cases this
          · simp at hv
        · simp at hv
      · simp at hv
    · simp at hv
  · simp at hv

/-! ### Ranges over maps of nothing -/
theorem range_rel (hT : TOK P T) (hw : WR G T ρ h n L z w) {t kt vt : TypeId} {e : TE} (ht : T t = some e) (hd : e.d = .map kt vt) {i : Nat} {es : List (Value × Value)} {ord : Bool} (hi : h i = some (.map es ord)) {x' : Value} (hx : VR ρ (.map (some i)) x') :
    ∃ ρ' w', (Instr.range t x').run P w = .ok (.pointer (some ⟨w.heap.size, 0, none⟩)) w' ∧ Ext n ρ ρ' ∧ ρ' n = some (w.heap.size, 0) ∧ WR G T ρ' (updH h n (some (.miter i))) (n + 1) L z w' := by
  cases hx with
  | @map _ b C hb =>
    obtain ⟨b', C', o', g1, g2, _, es', es'', c, rfl, _⟩ := hw.hp i _ hi
    rw [hb] at g1
    obtain ⟨rfl, rfl⟩ := Prod.mk.inj (Option.some.inj g1)
    have hu := run_und hT ht w
    rw [hd] at hu
    have hn : ρ n = none := hw.dom n (Nat.le_refl _)
    refine ⟨updR ρ n (w.heap.size, 0), { w with heap := w.heap.push (.mapIter (some b) c #[] c) }, ?_, ext_updR (Nat.le_refl _), by simp [updR], hw.new hn (Nat.le_succ _) (Nat.lt_succ_self _) 0 ⟨b, C, c, hb, rfl⟩⟩
    simp only [Instr.range, Sem.run_bind, hu, Result.andThen, Go.SL.run_getObj_map g2, Sem.run_pure]
    rfl
theorem next_rel (hw : WR G T ρ h n L z w) {i m : Nat} {ord : Bool} (hi : h i = some (.miter m)) (hm : h m = some (.map [] ord)) {x' : Value} (hx : VR ρ (.pointer (some ⟨i, 0, none⟩)) x') (ty : TypeId) :
    (Instr.next x' false ty).run P w = .ok (.tuple #[.bool false]) w := by
  cases hx with
  | @ptr _ b C _ hb =>
    obtain ⟨b1, C1, o1, g1, g2, _, bm, Cm, c, hbm, rfl⟩ := hw.hp i _ hi
    rw [hb] at g1
    obtain ⟨rfl, rfl⟩ := Prod.mk.inj (Option.some.inj g1)
    obtain ⟨b2, C2, o2, k1, k2, _, es', es'', c2, rfl, hmr, hp, _⟩ := hw.hp m _ hm
    rw [hbm] at k1
    obtain ⟨rfl, rfl⟩ := Prod.mk.inj (Option.some.inj k1)
    have he : es'' = [] := by cases es'' with | nil => rfl | cons x r => exact hmr.elim
    subst he
    have he2 : es' = #[] := by
      have := List.nil_perm.1 hp
      exact Array.toList_eq_nil_iff.1 this
    subst he2
    have hg : (getObj b).run P w = .ok (.mapIter (some bm) c #[] c) w := by simp [getObj, Sem.run, g2]
    have hch : (choose (.mapNext 1)).run P w = .ok 0 w := by simp [Question.forced]
    have hf : ∀ p : MapEntry → Bool, Array.filter p (#[] : Array MapEntry) 0 0 = #[] := fun _ => rfl
    simp only [Instr.next, Sem.run_bind, hg, Result.andThen, Go.SL.run_getObj_map k2]
    simp [hf, Question.forced, Sem.run]

/-! ### What carries out calls -/
inductive CR where
  | ok (v : Value)
  | pan (v : Value)
structure Orc where
  eq : List Nat
  call : FuncId → List Value → St → Option (CR × St)
  yld : Nat → List Value → St → Option (Value × St)

def pan1 (v : Value) : List PanicEntry := [{ v := v, recovered := false }]
def CRR (ρ : Ren) : CR → Ending → Prop
  | .ok v, e => ∃ v', e = .returned v' ∧ VR ρ v v'
  | .pan v, e => ∃ v', e = .panicked (pan1 v') ∧ VR ρ v v'

structure OrcOK (P : Program) (T : TT) (G : Nat) (orc : Orc) : Prop where
  eqs : AggOK P orc.eq
  call : ∀ {f : FuncId} {args : List Value} {st st' : St} {r : CR}, orc.call f args st = some (r, st') → ∀ {ρ : Ren} {L : Nat → Option Obj} {z w : World} {args' : List Value}, WR G T ρ st.h.get st.n L z w → VRs ρ args args' →
    (∀ (as : Array Value) (w : World), (callFunc f as).run P w = .ok (.enter f as) w) ∧ Calls P f args'.toArray w (fun e w' => st.n ≤ st'.n ∧ ∃ ρ', Ext st.n ρ ρ' ∧ WR G T ρ' st'.h.get st'.n L z w' ∧ CRR ρ' r e)
  yld : ∀ {l : Nat} {args : List Value} {st st' : St} {v : Value}, orc.yld l args st = some (v, st') → ∀ {ρ : Ren} {L : Nat → Option Obj} {z w : World} {args' : List Value} {b C : Nat}, WR G T ρ st.h.get st.n L z w → VRs ρ args args' → ρ l = some (b, C) →
    Yld P b args'.toArray w (fun v' w' => st.n ≤ st'.n ∧ ∃ ρ', Ext st.n ρ ρ' ∧ WR G T ρ' st'.h.get st'.n L z w' ∧ VR ρ' v v')

inductive Rs where
  | val (v : Value) (st : St)
  | pan (v : Value) (st : St)

def evL (G : Nat) (env : En) : List Operand → Option (List Value)
  | [] => some []
  | x :: r => match evO G env x, evL G env r with
    | some v, some l => some (v :: l)
    | _, _ => none
theorem evL_rel (hw : WR G T ρ h n L z w) (hs : SR ρ nt env a.tmps) : ∀ {xs : List Operand} {l : List Value}, evL G env xs = some l → VRs ρ l (xs.map a.eval)
  | [], l, hl => by simp only [evL, Option.some.injEq] at hl; subst hl; trivial
  | x :: r, l, hl => by
    simp only [evL] at hl
    split at hl
    · rename_i v l' hv hl'
      simp only [Option.some.injEq] at hl; subst hl
      exact ⟨ev_rel hw hs hv, evL_rel hw hs hl'⟩
    · simp at hl

def evCall (T : TT) (G : Nat) (orc : Orc) (env : En) (st : St) (c : Call) : Option Rs :=
  match c.callee with
  | .builtin b => match c.argTypes.toList, c.args.toList with
    | [t, t2], [x, y] => match evO G env x, evO G env y with
      | some vx, some vy => match b with
        | .append => match appV T st.h st.n t t2 vx vy with
          | some (v, h, n) => some (.val v ⟨h, n⟩)
          | none => none
        | .copy => match copyV T st.h t vx vy with
          | some (v, h) => some (.val v ⟨h, st.n⟩)
          | none => none
        | .max => match mmV true vx vy with | some v => some (.val v st) | none => none
        | .min => match mmV false vx vy with | some v => some (.val v st) | none => none
        | _ => none
      | _, _ => none
    | _, _ => none
  | .value x => match evO G env x, evL G env c.args.toList with
    | some (.func (.func f) fs cs), some l => match orc.call f (fs.toList ++ l ++ cs.toList) st with
      | some (.ok v, st') => some (.val v st')
      | some (.pan v, st') => some (.pan v st')
      | none => none
    | some (.func (.yield i) fs _), some l => match orc.yld i (fs.toList ++ l) st with
      | some (v, st') => some (.val v st')
      | none => none
    | _, _ => none
  | _ => none

def evOp (T : TT) (G : Nat) (orc : Orc) (env : En) (st : St) (o : Op) : Option Rs :=
  match lookV T G orc.eq env st.h o with
  | some v => some (.val v st)
  | none => match fltV T G env o with
    | some (ao, mk) => match Tri.fits st.n with
      | true => some (.val (mk.at st.n) ⟨st.h.set st.n (some ao), st.n + 1⟩)
      | false => none
    | none => match o with
      | .convert s d x => match evO G env x with
        | some vx => match cvV T st.h s d vx with
          | some v => some (.val v st)
          | none => none
        | none => none
      | .range t x => match evO G env x, T t with
        | some (.map (some i)), some e => match e.d, st.h.get i, Tri.fits st.n with
          | .map _ _, some (.map _ _), true => some (.val (.pointer (some ⟨st.n, 0, none⟩)) ⟨st.h.set st.n (some (.miter i)), st.n + 1⟩)
          | _, _, _ => none
        | _, _ => none
      | .next x isS => match isS, evO G env x with
        | false, some (.pointer (some ⟨i, 0, none⟩)) => match st.h.get i with
          | some (.miter m) => match st.h.get m with
            | some (.map [] _) => some (.val (.tuple #[.bool false]) st)
            | _ => none
          | _ => none
        | _, _ => none
      | .store t x y => match evO G env x, evO G env y with
        | some vx, some vy => match stV T st.h t vx vy with
          | some h => some (.val undef ⟨h, st.n⟩)
          | none => none
        | _, _ => none
      | .insert t m kx x | .mapUpdate t m kx x => match evO G env m, evO G env kx, evO G env x with
        | some vm, some vk, some vx => match mpV T st.h t vm vk vx with
          | some h => some (.val undef ⟨h, st.n⟩)
          | none => none
        | _, _, _ => none
      | .panic x => match evO G env x with
        | some (.iface t v) => some (.pan (.iface t v) st)
        | _ => none
      | .call c => evCall T G orc env st c
      | _ => none

/-- What is asked behind an operation. -/
def RsK (T : TT) (G : Nat) (ρ : Ren) (n₀ : Nat) (L : Nat → Option Obj) (z : World) (Q : Exit → Act → World → Prop) (a : Act) (dst : Option Tmp) (K : Act → World → Prop) : Rs → Prop
  | .val v st' => ∀ ρ' v' w', n₀ ≤ st'.n → Ext n₀ ρ ρ' → WR G T ρ' st'.h.get st'.n L z w' → VR ρ' v v' → K (a.put dst v') w'
  | .pan v st' => ∀ ρ' v' w', n₀ ≤ st'.n → Ext n₀ ρ ρ' → WR G T ρ' st'.h.get st'.n L z w' → VR ρ' v v' → Q (.panic (pan1 v')) a w'

theorem undef_vr : VR ρ undef undef := .tup rfl fun i x x' h => by simp [undef] at h

theorem VRs.append : ∀ {a a' b b' : List Value}, VRs ρ a a' → VRs ρ b b' → VRs ρ (a ++ b) (a' ++ b')
  | [], [], _, _, _, h => h
  | _ :: _, _ :: _, _, _, h1, h2 => ⟨h1.1, VRs.append h1.2 h2⟩
  | [], _ :: _, _, _, h1, _ => h1.elim
  | _ :: _, [], _, _, h1, _ => h1.elim
theorem VRs.of_ar : ∀ {l l' : List Value}, AR ρ l.toArray l'.toArray → VRs ρ l l'
  | [], [], _ => trivial
  | x :: l, x' :: l', h => ⟨h.2 0 x x' (by simp) (by simp), VRs.of_ar ⟨by simpa using h.1, fun i y y' a b => h.2 (i + 1) y y' (by simpa using a) (by simpa using b)⟩⟩
  | [], _ :: _, h => by simpa using h.1
  | _ :: _, [], h => by simpa using h.1
theorem VRs.ar {cs cs' : Array Value} (h : AR ρ cs cs') : VRs ρ cs.toList cs'.toList := VRs.of_ar (by simpa using h)

theorem evOp_ok (hT : TOK P T) (hZ : TZ T) {orc : Orc} (hO : OrcOK P T G orc) {st : St} (hw : WR G T ρ st.h.get st.n L z w) (hs : SR ρ nt env a.tmps) {o : Oper} {r : Rs} (ho : ops[k]? = some o) (hwt : wantB ops a o = true) (hr : evOp T G orc env st o.op = some r) (h : RsK T G ρ st.n L z Q a o.dst K r) : opW ro P ops Q k K a w := by
  unfold evOp at hr
  split at hr
  · rename_i v hv
    simp only [Option.some.injEq] at hr; subst hr
    obtain ⟨v', h1, h2⟩ := lookV_ok hT hZ hO.eqs hw hs hv
    exact wpOp_val ho hwt h1 (h ρ v' w (Nat.le_refl _) (Ext.refl _ _) hw h2)
  · split at hr
    · rename_i ao mk hv
      split at hr
      · rename_i hf
        simp only [Option.some.injEq] at hr; subst hr
        obtain ⟨hok, o', C, hor, hrun⟩ := fltV_ok hT hZ hw hs hv
        have hn : ρ st.n = none := hw.dom st.n (Nat.le_refl _)
        refine wpOp_val ho hwt (hrun rfl) (h (updR ρ st.n (w.heap.size, C)) _ _ (Nat.le_succ _) (ext_updR (Nat.le_refl _)) ((hw.new hn (Nat.le_succ _) (Nat.lt_succ_self _) C hor).conv (upd_set hf)) (Mk.vr hok (b := w.heap.size) (C := C) (by simp [updR])))
      · simp at hr
    · split at hr
      · rename_i s d x hop
        split at hr
        · rename_i vx hx
          split at hr
          · rename_i v hv
            simp only [Option.some.injEq] at hr; subst hr
            obtain ⟨h1, h2⟩ := cv_rel hT hw (ev_rel hw hs hx) hv
            have he : (execOp a.eval o).run P w = .ok (.value v) w := by
              obtain ⟨dst, op, type, pos, after, guard⟩ := o
              simp only at hop
              subst hop
              simp only [execOp, Sem.run_bind, h1, Result.andThen, Sem.run_pure]
            exact wpOp_val ho hwt he (h ρ v w (Nat.le_refl _) (Ext.refl _ _) hw h2)
          · simp at hr
        · simp at hr
      · rename_i t x hop
        split at hr
        · rename_i i e hx ht
          split at hr
          · rename_i kt vt es ord hd hi hf
            simp only [Option.some.injEq] at hr; subst hr
            obtain ⟨ρ', w', h1, h2, h3, h4⟩ := range_rel (P := P) hT hw ht hd hi (ev_rel hw hs hx)
            have he : (execOp a.eval o).run P w = .ok (.value (.pointer (some ⟨w.heap.size, 0, none⟩))) w' := by
              obtain ⟨dst, op, type, pos, after, guard⟩ := o
              simp only at hop
              subst hop
              simp only [execOp, Sem.run_bind, h1, Result.andThen, Sem.run_pure]
            exact wpOp_val ho hwt he (h ρ' _ w' (Nat.le_succ _) h2 (h4.conv (upd_set hf)) (.ptr h3))
          · simp at hr
        · simp at hr
      · rename_i x isS hop
        split at hr
        · rename_i i hx
          split at hr
          · rename_i m hi
            split at hr
            · rename_i ord hm
              simp only [Option.some.injEq] at hr; subst hr
              have h1 := next_rel (P := P) hw hi hm (ev_rel hw hs hx) o.type
              have he : (execOp a.eval o).run P w = .ok (.value (.tuple #[.bool false])) w := by
                obtain ⟨dst, op, type, pos, after, guard⟩ := o
                simp only at hop
                subst hop
                simp only [execOp, Sem.run_bind, h1, Result.andThen, Sem.run_pure]
              exact wpOp_val ho hwt he (h ρ _ w (Nat.le_refl _) (Ext.refl _ _) hw (scal2_vr rfl))
            · simp at hr
          · simp at hr
        · simp at hr
      · rename_i t x y hop
        split at hr
        · rename_i vx vy hx hy
          split at hr
          · rename_i H' hst
            simp only [Option.some.injEq] at hr; subst hr
            obtain ⟨w', h1, h2⟩ := store_rel hT hw (ev_rel hw hs hx) (ev_rel hw hs hy) hst
            have he : (execOp a.eval o).run P w = .ok .skip w' := by
              obtain ⟨dst, op, type, pos, after, guard⟩ := o
              simp only at hop
              subst hop
              simp only [execOp, Sem.run_bind, h1, Result.andThen, Sem.run_pure]
            exact wpOp_skip ho hwt he (h ρ undef w' (Nat.le_refl _) (Ext.refl _ _) h2 undef_vr)
          · simp at hr
        · simp at hr
      · rename_i t m kx x hop
        split at hr
        · rename_i vm vk vx hm hk hx
          split at hr
          · rename_i H' hst
            simp only [Option.some.injEq] at hr; subst hr
            obtain ⟨w', h1, h2⟩ := map_rel hT hw (ev_rel hw hs hm) (ev_rel hw hs hk) (ev_rel hw hs hx) hst
            have he : (execOp a.eval o).run P w = .ok .skip w' := by
              obtain ⟨dst, op, type, pos, after, guard⟩ := o
              simp only at hop
              subst hop
              simp only [execOp, Sem.run_bind, h1, Result.andThen, Sem.run_pure]
            exact wpOp_skip ho hwt he (h ρ undef w' (Nat.le_refl _) (Ext.refl _ _) h2 undef_vr)
          · simp at hr
        · simp at hr
      · rename_i t m kx x hop
        split at hr
        · rename_i vm vk vx hm hk hx
          split at hr
          · rename_i H' hst
            simp only [Option.some.injEq] at hr; subst hr
            obtain ⟨w', h1, h2⟩ := map_rel hT hw (ev_rel hw hs hm) (ev_rel hw hs hk) (ev_rel hw hs hx) hst
            have he : (execOp a.eval o).run P w = .ok .skip w' := by
              obtain ⟨dst, op, type, pos, after, guard⟩ := o
              simp only at hop
              subst hop
              simp only [execOp, Sem.run_bind, h1, Result.andThen, Sem.run_pure]
            exact wpOp_skip ho hwt he (h ρ undef w' (Nat.le_refl _) (Ext.refl _ _) h2 undef_vr)
          · simp at hr
        · simp at hr
      · rename_i x hop
        split at hr
        · rename_i t v hx
          simp only [Option.some.injEq] at hr; subst hr
          have hxr := ev_rel hw hs hx
          cases hxe : a.eval x <;> rw [hxe] at hxr <;> cases hxr
          rename_i v' hv'
          have he : (execOp a.eval o).run P w = .halt (.panic (.iface t v')) w := by
            obtain ⟨dst, op, type, pos, after, guard⟩ := o
            simp only at hop
            subst hop
            simp only [execOp, hxe, Instr.panic, Sem.run_bind]
            rfl
          unfold opW
          simp only [ho]
          unfold wantB at hwt
          rw [if_pos hwt]
          refine ⟨fun _ _ => trivial, ?_⟩
          rw [semAt_run (fun c hc => by rw [hop] at hc; cases hc), he]
          exact h ρ _ w (Nat.le_refl _) (Ext.refl _ _) hw (.iface t hv')
        · simp at hr
      · rename_i c hop
        unfold evCall at hr
        split at hr
        · rename_i b hcal
          split at hr
          · rename_i t t2 x y hts has
            have hts' : c.argTypes = #[t, t2] := by rw [← Array.toArray_toList (xs := c.argTypes), hts]
            have has' : c.args = #[x, y] := by rw [← Array.toArray_toList (xs := c.args), has]
            split at hr
            · rename_i vx vy hx hy
              have hxr := ev_rel hw hs hx
              have hyr := ev_rel hw hs hy
              have hexe : ∀ {v' : Value} {w' : World}, (builtin b #[t, t2] o.type (c.args.map fun | .const _ => true | _ => false) #[a.eval x, a.eval y]).run P w = .ok (.value v') w' → (execOp a.eval o).run P w = .ok (.value v') w' := fun {v' w'} hb => by
                obtain ⟨dst, op, type, pos, after, guard⟩ := o
                simp only at hop
                subst hop
                have hm : c.args.map a.eval = #[a.eval x, a.eval y] := by rw [has']; simp
                simp only [execOp, resolve, hcal, Sem.run_bind, Sem.run_pure, Result.andThen, invoke, hm, hts']
                exact hb
              split at hr
              · split at hr
                · rename_i v H' n' happ
                  simp only [Option.some.injEq] at hr; subst hr
                  obtain ⟨hn, ρ', v', w', h1, h2, h3, h4⟩ := app_rel hT hw hxr hyr happ o.type
                  refine wpOp_val ho hwt (hexe ?_) (h ρ' v' w' hn h2 h4 h3)
                  simp only [builtin, Sem.run_bind, h1, Result.andThen, Sem.run_pure]
                · simp at hr
              · split at hr
                · rename_i v H' hcp
                  simp only [Option.some.injEq] at hr; subst hr
                  obtain ⟨v', w', h1, h3, h4⟩ := copy_rel (t2 := t2) hT hw hxr hyr hcp o.type
                  refine wpOp_val ho hwt (hexe ?_) (h ρ v' w' (Nat.le_refl _) (Ext.refl _ _) h4 h3)
                  simp only [builtin, Sem.run_bind, h1, Result.andThen, Sem.run_pure]
                · simp at hr
              · split at hr
                · rename_i v hmm
                  simp only [Option.some.injEq] at hr; subst hr
                  obtain ⟨h1, h2⟩ := mm_rel hmm hxr hyr
                  refine wpOp_val ho hwt (hexe (v' := v) (w' := w) ?_) (h ρ v w (Nat.le_refl _) (Ext.refl _ _) hw h2)
                  have := mm_run (P := P) h1 #[t, t2] o.type w
                  simp only [if_true] at this
                  simp only [builtin, Sem.run_bind, this, Result.andThen, Sem.run_pure]
                · simp at hr
              · split at hr
                · rename_i v hmm
                  simp only [Option.some.injEq] at hr; subst hr
                  obtain ⟨h1, h2⟩ := mm_rel hmm hxr hyr
                  refine wpOp_val ho hwt (hexe (v' := v) (w' := w) ?_) (h ρ v w (Nat.le_refl _) (Ext.refl _ _) hw h2)
                  have := mm_run (P := P) h1 #[t, t2] o.type w
                  simp only [Bool.false_eq_true, if_false] at this
                  simp only [builtin, Sem.run_bind, this, Result.andThen, Sem.run_pure]
                · simp at hr
              · simp at hr
            · simp at hr
          · simp at hr
        · rename_i x hcal
          split at hr
          · rename_i f fs cs l hx hl
            have hxr := ev_rel hw hs hx
            have hlr := evL_rel hw hs hl
            cases hxe : a.eval x <;> rw [hxe] at hxr <;> cases hxr
            rename_i fn fs' cs' e1 e2 e3 e4 e5
            cases e1
            have hargs : VRs ρ (fs.toList ++ l ++ cs.toList) (fs'.toList ++ c.args.toList.map a.eval ++ cs'.toList) := VRs.append (VRs.append (VRs.ar ⟨e2, e3⟩) hlr) (VRs.ar ⟨e4, e5⟩)
            have harr : (fs'.toList ++ c.args.toList.map a.eval ++ cs'.toList).toArray = fs' ++ c.args.map a.eval ++ cs' := by
              apply Array.ext'; simp
            have key : ∀ {r0 : CR} {st' : St}, orc.call f (fs.toList ++ l ++ cs.toList) st = some (r0, st') → (match r0 with | .ok v => RsK T G ρ st.n L z Q a o.dst K (.val v st') | .pan v => RsK T G ρ st.n L z Q a o.dst K (.pan v st')) → opW ro P ops Q k K a w := fun {r0 st'} hcall hK => by
              obtain ⟨hc1, hc3⟩ := hO.call hcall hw hargs
              rw [harr] at hc3
              have he : (execOp a.eval o).run P w = .ok (.enter f (fs' ++ c.args.map a.eval ++ cs')) w := by
                obtain ⟨dst, op, type, pos, after, guard⟩ := o
                simp only at hop
                subst hop
                simp only [execOp, resolve, hcal, hxe, Deferred.ofValue, Sem.run_bind, Sem.run_pure, Result.andThen, invoke]
                exact hc1 _ _
              refine op_callP ho hwt he hc3 (fun v w' hv => ?_) (fun ch w' hv => ?_) (fun w' hv => ?_)
              · obtain ⟨hc2, ρ', g1, g2, g3⟩ := hv
                cases r0 with
                | ok v0 => obtain ⟨v', e, hvr⟩ := g3; cases e; exact hK ρ' _ w' hc2 g1 g2 hvr
                | pan v0 => obtain ⟨v', e, hvr⟩ := g3; cases e
              · obtain ⟨hc2, ρ', g1, g2, g3⟩ := hv
                cases r0 with
                | ok v0 => obtain ⟨v', e, hvr⟩ := g3; cases e
                | pan v0 => obtain ⟨v', e, hvr⟩ := g3; cases e; exact hK ρ' _ w' hc2 g1 g2 hvr
              · obtain ⟨hc2, ρ', g1, g2, g3⟩ := hv
                cases r0 with
                | ok v0 => obtain ⟨v', e, hvr⟩ := g3; cases e
                | pan v0 => obtain ⟨v', e, hvr⟩ := g3; cases e
            split at hr
            · rename_i v st' hcall
              simp only [Option.some.injEq] at hr; subst hr
              exact key hcall h
            · rename_i v st' hcall
              simp only [Option.some.injEq] at hr; subst hr
              exact key hcall h
            · simp at hr
          · rename_i i fs cs l hx hl
            have hxr := ev_rel hw hs hx
            have hlr := evL_rel hw hs hl
            cases hxe : a.eval x <;> rw [hxe] at hxr <;> cases hxr
            rename_i fn fs' cs' e1 e2 e3 e4 e5
            cases e1 with
            | @yield _ b C hb =>
            have hargs : VRs ρ (fs.toList ++ l) (fs'.toList ++ c.args.toList.map a.eval) := VRs.append (VRs.ar ⟨e2, e3⟩) hlr
            have harr : (fs'.toList ++ c.args.toList.map a.eval).toArray = fs' ++ c.args.map a.eval := by
              apply Array.ext'; simp
            split at hr
            · rename_i v st' hy
              simp only [Option.some.injEq] at hr; subst hr
              have hY := hO.yld hy hw hargs hb
              rw [harr] at hY
              obtain ⟨f, tmps, assign, body, y1, y2⟩ := hY
              have he : (execOp a.eval o).run P w = .ok (.round b f tmps assign body) w := by
                obtain ⟨dst, op, type, pos, after, guard⟩ := o
                simp only at hop
                subst hop
                simp only [execOp, resolve, hcal, hxe, Deferred.ofValue, Sem.run_bind, Sem.run_pure, Result.andThen, invoke]
                exact y1
              unfold opW
              simp only [ho]
              unfold wantB at hwt
              rw [if_pos hwt]
              refine ⟨fun _ _ => trivial, ?_⟩
              rw [semAt_run (not_defer_round he), he]
              refine ⟨(fun h => by cases h), ?_⟩
              have y2' : RoundIn (FW ro) 0 P b f tmps assign body w _ := y2
              refine RoundIn.mono y2' fun e w' ⟨v', he', hn, ρ', g1, g2, g3⟩ => ?_
              subst he'
              exact h ρ' v' w' hn g1 g2 g3
            · simp at hr
          · simp at hr
        · simp at hr
      · simp at hr
end Go.EV
