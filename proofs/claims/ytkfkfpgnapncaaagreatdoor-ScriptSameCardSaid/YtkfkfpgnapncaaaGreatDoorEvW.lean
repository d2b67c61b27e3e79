import Derived.Test.YtkfkfpgnapncaaaGreatDoorEvS
set_option linter.unusedSimpArgs false
set_option linter.unusedVariables false
/-! The computed walk is right: regions that draw, step by step. -/
noncomputable section
namespace Go.EV
open Go Go.RowKit Go.SL
variable {X : Cx} {d : Ds} {N : Nat} {ρ0 ρ ρ' : Ren} {L : Nat → Option Obj} {z w w' : World} {ds : List AD} {m : Nat} {s : St} {Lst : Array Bool} {a : Act} {i : Nat} {o : Oper} {ro : Option Nat} {Q : Exit → Act → World → Prop}

/-- Those entries that are laid. -/
def ents (Lst : Array Bool) (ins : List (Nat × Value × Value)) : List (Value × Value) := (ins.filter fun q => Lst.getD q.1 false).map (·.2)
/-- The map that is written out here, so far. -/
def MapI (d : Ds) (ρ : Ren) (L L2 : Nat → Option Obj) (Lst : Array Bool) : Prop :=
  match d.mp with
  | none => L2 = L
  | some (f, x) => match Lst.getD f false with
    | false => L2 = L ∧ ρ x = none
    | true => ∃ b C es' es'' c, L b = none ∧ L2 = updL L b (some (.map es' c)) ∧ ρ x = some (b, C) ∧ MR ρ (ents Lst d.ins) es'' ∧ es''.Perm es'.toList
theorem MapI.sub {L2 : Nat → Option Obj} (h : MapI d ρ L L2 Lst) : ∀ b o, L b = some o → L2 b = some o := by
  unfold MapI at h
  split at h
  · subst h; exact fun _ _ h => h
  · split at h
    · obtain ⟨rfl, _⟩ := h; exact fun _ _ h => h
    · obtain ⟨b, C, es', es'', c, h1, rfl, _⟩ := h
      intro b' o hb
      unfold updL
      by_cases e : b' = b
      · subst e; rw [h1] at hb; cases hb
      · rw [if_neg e]; exact hb
theorem ents_set {ins : List (Nat × Value × Value)} (h : ∀ q ∈ ins, q.1 ≠ i) : ents (Lst.setIfInBounds i true) ins = ents Lst ins := by
  unfold ents
  congr 1
  apply List.filter_congr
  intro q hq
  rw [getD_set_ne false (fun e => h q hq e.symm)]
/-- Another operation leaves it alone. -/
theorem MapI.keep {L2 : Nat → Option Obj} (hD : DI X N d) (h : MapI d ρ L L2 Lst) {k : TK} (hk : d.ks[i]? = some k) (h1 : ∀ x, k ≠ .mmap x) (h2 : ∀ kv v, k ≠ .ins kv v) (hle : Ren.le ρ ρ') (hx : ∀ f x, d.mp = some (f, x) → ρ x = none → ρ' x = none) : MapI d ρ' L L2 (Lst.setIfInBounds i true) := by
  unfold MapI at *
  split at h
  · exact h
  · rename_i f x hm
    have hfi : f ≠ i := fun e => by
      have := (hD.mpI f x hm).2.2.2
      rw [e, hk] at this
      exact h1 _ (Option.some.inj this)
    rw [getD_set_ne false (fun e => hfi e.symm)]
    split at h
    · exact ⟨h.1, hx f x hm h.2⟩
    · rename_i hL
      obtain ⟨b, C, es', es'', c, g1, g2, g3, g4, g5⟩ := h
      refine ⟨b, C, es', es'', c, g1, g2, hle _ _ g3, ?_, g5⟩
      rw [ents_set fun q hq e => ?_]
      · exact g4.mono hle
      · have := (hD.insI q hq).2
        rw [e, hk] at this
        exact h2 _ _ (Option.some.inj this)

def Inv (X : Cx) (d : Ds) (N : Nat) (ρ0 : Ren) (L : Nat → Option Obj) (z : World) (ds : List AD) (Lst : Array Bool) (a : Act) (w : World) : Prop := ∃ ρ m s L2, MapI d ρ L L2 Lst ∧ IV X d N ρ0 L2 z ds ρ m s Lst a w

theorem winOk_spec {T : TT} {G : Nat} {E A acts : List Nat} {fl : Fls} {env' : En} {op : Op} {v : Value} {i mm : Nat} : ∀ {l : List St} {q : Nat}, winOk T G E A acts fl env' op v i mm q l = true → ∀ r s, l[r]? = some s → unm A (acts.take (q + r)) i = true → (acts.drop (q + r)).all (fun a => !has mm a) = true →
    lookV T G E env' (withF A mm (acts.take (q + r)) s.h fl) op = some v
  | [], q, _, r, s, hr, _, _ => by simp at hr
  | s0 :: l, q, h, r, s, hr, h1, h2 => by
    simp only [winOk, Bool.and_eq_true] at h
    cases r with
    | zero =>
      simp only [List.getElem?_cons_zero, Option.some.injEq] at hr
      subst hr
      rw [Nat.add_zero] at h1 h2 ⊢
      have h3 := h.1
      rw [h1, h2] at h3
      simp only [Bool.and_self] at h3
      split at h3
      · rename_i v' hv'
        rw [hv', eqV_eq 5 _ _ h3]
      · cases h3
    | succ r =>
      have := winOk_spec h.2 r s (by simpa using hr) (by rwa [show q + 1 + r = q + (r + 1) by omega]) (by rwa [show q + 1 + r = q + (r + 1) by omega])
      rwa [show q + 1 + r = q + (r + 1) by omega] at this

theorem looksOk_spec {T : TT} {G : Nat} {E A : List Nat} {ops : Array Oper} {d : Ds} : ∀ {l : List Oper} {ks : List TK} {i : Nat}, looksOk T G E ops A d i l ks = true → ∀ q o v, l[q]? = some o → ks[q]? = some (.look v) →
    winOk T G E A d.acts d.fl (pickE d.env (opSlots ops o)) o.op v (i + q) (A.getD (i + q) 0) 0 d.sts = true
  | [], _, i, _, q, o, v, hq, _ => by simp at hq
  | _ :: _, [], i, _, q, o, v, _, hk => by simp at hk
  | o0 :: l, k0 :: ks, i, h, q, o, v, hq, hk => by
    simp only [looksOk, Bool.and_eq_true] at h
    cases q with
    | zero =>
      simp only [List.getElem?_cons_zero, Option.some.injEq] at hq hk
      subst hq; subst hk
      exact h.1
    | succ q =>
      have := looksOk_spec h.2 q o v (by simpa using hq) (by simpa using hk)
      rwa [show i + 1 + q = i + (q + 1) by omega] at this

/-- The laying of a block. -/
theorem IV.lay (hC : Chk X) (hD : DI X N d) (hI : IV X d N ρ0 L z ds ρ m s Lst a w) (hi : i ∈ Region.ready .any X.ops Lst) (ho : X.ops[i]? = some o) (hiN : i < N) {ao : AO} {mk : Mk} {x : Nat} (hk : d.ks[i]? = some (.flt ao mk x)) (hx : x = X.n₀ + i) (hm : (i, x, ao) ∈ d.fl) (hok : mk.ok = true) {o' : Obj} {C : Nat} (hor : OR X.T ρ C ao o') :
    IV X d N ρ0 L z ds (updR ρ x (w.heap.size, C)) m s (Lst.setIfInBounds i true) (a.put o.dst (mk.at w.heap.size)) { w with heap := w.heap.push o' } := by
  obtain ⟨hun, oo, hoo, hp⟩ := mem_ready.1 hi
  rw [ho] at hoo
  obtain rfl := Option.some.inj hoo
  have hunf : Lst.getD i false = false := getD_mono hun
  have hsz : i < Lst.size := by rw [hI.sz]; exact (Array.getElem?_eq_some_iff.1 ho).1
  have hxn : ρ x = none := hI.off _ hm hunf
  have hxs : x < s.n := by have := hI.sn; have := (Array.getElem?_eq_some_iff.1 ho).1; omega
  have hle := le_updR (p := (w.heap.size, C)) hxn
  have hn := hI.wr.new hxn (Nat.le_refl _) hxs C hor
  obtain ⟨h1, h2, h3⟩ := hI.slots (ρ' := updR ρ x (w.heap.size, C)) hC hD ho hiN hk hle (Mk.vr hok (b := w.heap.size) (C := C) (by simp [updR]))
  have humn : unm X.A (d.acts.take m) i = true := unm_of fun q' b hb hq => by
    cases hh : has (X.A.getD b 0) i with
    | false => rfl
    | true =>
      obtain ⟨hbN, _⟩ := hD.actI b (List.mem_of_getElem? hb)
      have hbs : b < X.ops.size := by have := hD.le; omega
      have := hC.done2 hI.shut (i := b) (o := X.ops[b]) (by simp [hbs]) ((hI.act q' b hb).2 hq) hh
      rw [hunf] at this; cases this
  refine ⟨by simp [hI.sz], hI.shut.set hi, fun j hj => ?_, ?_, fun q b hb => ?_, hI.mle, hI.st, ?_, hI.sn, fun f hf hL => ?_, hI.no, h1, h2, h3, by rw [put_df]; exact hI.df.mono hle⟩
  · by_cases e : j = i
    · omega
    · rw [getD_set_ne false (fun h => e h.symm)] at hj; exact hI.lo j hj
  · refine hI.ext.trans (ext_updR (Nat.le_refl _)) (by omega) |>.trans (Ext.refl x _) (by omega)
  · have hbi : b ≠ i := fun e => by
      obtain ⟨_, v, hk'⟩ := hD.actI b (List.mem_of_getElem? hb)
      rw [e, hk] at hk'
      cases hk'
    rw [getD_set_ne false (fun h => hbi h.symm)]
    exact hI.act q b hb
  · refine hn.conv fun j => ?_
    have hmf : (i, x, ao) ∈ d.fl.filter fun q => unm X.A (d.acts.take m) q.1 := List.mem_filter.2 ⟨hm, humn⟩
    have := withL_add (Pd := fun f => Lst.getD f false) (h := s.h.get) hmf (nodup_filter hD.flN) (nodup_filter2 hD.flN2) hunf
    rw [← this]
    congr 1
    funext f
    by_cases e : f = i
    · rw [e, getD_set_self hsz]; simp
    · rw [getD_set_ne false (fun h => e h.symm)]
      cases hb : Nat.beq f i with
      | true => exact absurd (Nat.eq_of_beq_eq_true hb) e
      | false => simp
  · have hfi : f.1 ≠ i := fun e => by rw [e, getD_set_self hsz] at hL; cases hL
    rw [getD_set_ne false (fun h => hfi h.symm)] at hL
    have hne : f.2.1 ≠ x := fun e => by
      have := (hD.flI f hf).2.1
      omega
    unfold updR
    rw [if_neg hne]
    exact hI.off f hf hL

/-- An act; what is laid and not taken in is put aside. -/
theorem IV.acts (hC : Chk X) (hD : DI X N d) (hI : IV X d N ρ0 L z ds ρ m s Lst a w) (ho : X.ops[i]? = some o) (hp : ∀ e ∈ o.after, Region.binds .any e = true → Lst.getD e.on false = true) {fl1 fl2 : Fls} (hfl : d.fl = fl1 ++ fl2) (hf1 : ∀ f ∈ fl1, i ≤ f.1) :
    ∃ L', (∀ b o, L b = some o → L' b = some o) ∧ WR X.G X.T ρ (withF X.A (X.A.getD i 0) (d.acts.take m) s.h fl2).get s.n L' z w ∧
      ∀ (ρ' : Ren) (s' : St) (w' : World), Ext s.n ρ ρ' → WR X.G X.T ρ' s'.h.get s'.n L' z w' →
        WR X.G X.T ρ' (withL (fun f => Lst.getD f false && !has (X.A.getD i 0) f) s'.h.get (d.fl.filter fun q => unm X.A (d.acts.take m) q.1)) s'.n L z w' ∧
        ∀ q ∈ d.fl, unm X.A (d.acts.take m) q.1 = true → has (X.A.getD i 0) q.1 = false → s'.h.get q.2.1 = none := by
  have hno : ∀ q ∈ d.fl.filter (fun q => unm X.A (d.acts.take m) q.1), s.h.get q.2.1 = none := fun q hq => hI.no q (List.mem_filter.1 hq).1 (List.mem_filter.1 hq).2
  obtain ⟨L', hL, h1, h2⟩ := asideL (fun f => Lst.getD f false) (fun f => has (X.A.getD i 0) f) _ s.h.get L hI.wr (nodup_filter2 hD.flN2) hno
  refine ⟨L', hL, ?_, fun ρ' s' w' he hw' => ?_⟩
  · rw [withF_get fun q hq => (hD.flI q (by rw [hfl]; exact List.mem_append_right _ hq)).2.2.1]
    refine h1.conv fun j => ?_
    have e1 : withL (fun f => Lst.getD f false && has (X.A.getD i 0) f) s.h.get (d.fl.filter fun q => unm X.A (d.acts.take m) q.1) = withL (has (X.A.getD i 0)) s.h.get (d.fl.filter fun q => unm X.A (d.acts.take m) q.1) := withL_cong fun q hq => by
      cases hh : has (X.A.getD i 0) q.1 with
      | false => simp
      | true => rw [hC.done hI.shut ho hp hh]; rfl
    rw [e1, hfl, List.filter_append, withL_app fun q hq => ?_]
    have := hf1 q (List.mem_filter.1 hq).1
    cases hh : has (X.A.getD i 0) q.1 with
    | false => rfl
    | true => have := hC.lt hh; omega
  · obtain ⟨k1, k2⟩ := h2 ρ' s'.h.get s'.n w' he hw'
    refine ⟨k1, fun q hq hu hh => ?_⟩
    cases hL1 : Lst.getD q.1 false with
    | true => exact k2 q (List.mem_filter.2 ⟨hq, hu⟩) (by rw [hL1, hh]; rfl)
    | false =>
      cases hv : s'.h.get q.2.1 with
      | none => rfl
      | some u =>
        obtain ⟨b, C, o', g1, _⟩ := hw'.hp _ _ hv
        have hlt : q.2.1 < s.n := by
          have := (hD.flI q hq)
          have h3 := hI.sn
          have h4 := hD.le
          omega
        rw [he _ hlt, hI.off q hq hL1] at g1
        cases g1

/-- Behind an act. -/
theorem IV.acted (hC : Chk X) (hD : DI X N d) (hI : IV X d N ρ0 L z ds ρ m s Lst a w) (hi : i ∈ Region.ready .any X.ops Lst) (ho : X.ops[i]? = some o) (hiN : i < N) {v v' : Value} (hk : d.ks[i]? = some (.act v)) {q : Nat} (hq : d.acts[q]? = some i) (hmq : m = q) {st : St} (hst : d.sts[q + 1]? = some st)
    (hn : s.n ≤ st.n) (he : Ext s.n ρ ρ')
    (hw' : WR X.G X.T ρ' (withL (fun f => Lst.getD f false && !has (X.A.getD i 0) f) st.h.get (d.fl.filter fun q => unm X.A (d.acts.take m) q.1)) st.n L z w')
    (hno : ∀ q ∈ d.fl, unm X.A (d.acts.take m) q.1 = true → has (X.A.getD i 0) q.1 = false → st.h.get q.2.1 = none) (hv : VR ρ' v v') :
    IV X d N ρ0 L z ds ρ' (q + 1) st (Lst.setIfInBounds i true) (a.put o.dst v') w' := by
  obtain ⟨hun, oo, hoo, hp⟩ := mem_ready.1 hi
  rw [ho] at hoo
  obtain rfl := Option.some.inj hoo
  subst hmq
  have hunf : Lst.getD i false = false := getD_mono hun
  have hsz : i < Lst.size := by rw [hI.sz]; exact (Array.getElem?_eq_some_iff.1 ho).1
  have hle : Ren.le ρ ρ' := he.le hI.wr.dom
  have hqlt : m < d.acts.length := (List.getElem?_eq_some_iff.1 hq).1
  obtain ⟨h1, h2, h3⟩ := hI.slots (ρ' := ρ') hC hD ho hiN hk hle hv
  have hunm : ∀ f, unm X.A (d.acts.take (m + 1)) f = (unm X.A (d.acts.take m) f && !has (X.A.getD i 0) f) := fun f => by
    unfold unm
    rw [List.take_add_one, hq]
    simp
  have hfi : ∀ f ∈ d.fl, f.1 ≠ i := fun f hf e => by
    obtain ⟨_, _, _, mk, hk'⟩ := hD.flI f hf
    rw [e, hk] at hk'
    cases hk'
  refine ⟨by simp [hI.sz], hI.shut.set hi, fun j hj => ?_, hI.ext.trans he (by have := hI.sn; omega), fun q' b hb => ?_, by omega, hst, ?_, by have := hI.sn; omega, fun f hf hL => ?_, fun f hf hu => ?_, h1, h2, h3, by rw [put_df]; exact hI.df.mono hle⟩
  · by_cases e : j = i
    · omega
    · rw [getD_set_ne false (fun h => e h.symm)] at hj; exact hI.lo j hj
  · by_cases e : b = i
    · subst e
      rw [getD_set_self hsz]
      have hqq : q' = m := by
        have hq'lt : q' < d.acts.length := (List.getElem?_eq_some_iff.1 hb).1
        exact (List.getElem_inj (i := q') (j := m) (h₀ := hq'lt) (h₁ := hqlt) hD.actN).1 (by rw [(List.getElem?_eq_some_iff.1 hb).2, (List.getElem?_eq_some_iff.1 hq).2])
      constructor
      · intro _; omega
      · intro _; rfl
    · rw [getD_set_ne false (fun h => e h.symm), hI.act q' b hb]
      constructor
      · intro h; omega
      · intro h
        have : q' ≠ m := fun e' => by
          subst e'
          rw [hq] at hb
          exact e (Option.some.inj hb).symm
        omega
  · refine hw'.conv fun j => ?_
    have e1 : (d.fl.filter fun q => unm X.A (d.acts.take (m + 1)) q.1) = ((d.fl.filter fun q => unm X.A (d.acts.take m) q.1).filter fun q => !has (X.A.getD i 0) q.1) := by
      rw [List.filter_filter]
      congr 1
      funext q
      rw [hunm, Bool.and_comm]
    rw [e1]
    have e2 : withL (fun f => (Lst.setIfInBounds i true).getD f false) st.h.get ((d.fl.filter fun q => unm X.A (d.acts.take m) q.1).filter fun q => !has (X.A.getD i 0) q.1) = withL (fun f => Lst.getD f false && !has (X.A.getD i 0) f) st.h.get ((d.fl.filter fun q => unm X.A (d.acts.take m) q.1).filter fun q => !has (X.A.getD i 0) q.1) := withL_cong fun q hq => by
      obtain ⟨hq1, hq2⟩ := List.mem_filter.1 hq
      rw [getD_set_ne false (fun h => hfi q (List.mem_filter.1 hq1).1 h.symm), hq2, Bool.and_true]
    rw [e2, withL_filter fun q _ h => ?_]
    rw [Bool.and_eq_true] at h
    exact h.2
  · rw [getD_set_ne false (fun h => hfi f hf h.symm)] at hL
    have hlt : f.2.1 < s.n := by
      have := (hD.flI f hf)
      have h3 := hI.sn
      have h4 := hD.le
      omega
    rw [he _ hlt]
    exact hI.off f hf hL
  · rw [hunm, Bool.and_eq_true] at hu
    exact hno f hf hu.1 (by simpa using hu.2)

/-! ### The map that is written out -/
theorem WR.newL {G : Nat} {T : TT} {h : Hp} {n x : Nat} (hw : WR G T ρ h n L z w) (hx : ρ x = none) (hxn : x < n) (hh : h x = none) : ∃ b, L b = none ∧ b = w.heap.size ∧ WR G T (updR ρ x (b, 0)) h n (updL L b (some (.map #[] 0))) z { w with heap := w.heap.push (.map #[] 0) } := by
  have h1 := hw.new hx (Nat.le_refl n) hxn 0 (p := .map [] true) (p' := .map #[] 0) ⟨#[], [], 0, rfl, trivial, .refl _, fun _ => rfl⟩
  obtain ⟨b, C, o', g1, g2, g3, g4⟩ := h1.aside (i := x) (o := .map [] true) (by simp [updH])
  have hb : b = w.heap.size := by
    simp only [updR, if_true] at g1
    exact (Prod.mk.inj (Option.some.inj g1)).1.symm
  subst hb
  have ho : o' = .map #[] 0 := by
    have hq := g4.fr w.heap.size o' (by simp [updL])
    simp at hq
    exact hq.symm
  subst ho
  refine ⟨_, g3, rfl, g4.conv fun j => ?_⟩
  simp only [updH]
  by_cases e : j = x
  · subst e; rw [if_pos rfl]; exact hh
  · rw [if_neg e, if_neg e]
theorem WR.putL {G : Nat} {T : TT} {h : Hp} {n b : Nat} {o o' : Obj} (hb : L b = none) (hw : WR G T ρ h n (updL L b (some o)) z w) : WR G T ρ h n (updL L b (some o')) z { w with heap := w.heap.setIfInBounds b o' } := by
  have hbk : w.heap[b]? = some o := hw.fr b o (by simp [updL])
  have hlt : b < w.heap.size := (Array.getElem?_eq_some_iff.1 hbk).1
  refine ⟨hw.os, hw.tape, hw.output, by simpa using hw.size, hw.dom, fun i q hi => ?_, hw.inj, fun b' q hq => ?_, hw.gl⟩
  · obtain ⟨b', C, q', g1, g2, g3, g4⟩ := hw.hp i q hi
    have hne : b' ≠ b := fun e => by subst e; simp [updL] at g3
    refine ⟨b', C, q', g1, ?_, ?_, g4⟩
    · show (w.heap.setIfInBounds b o')[b']? = _
      rw [Array.getElem?_setIfInBounds_ne (fun e => hne e.symm)]; exact g2
    · unfold updL at g3 ⊢
      rw [if_neg hne] at g3 ⊢; exact g3
  · show (w.heap.setIfInBounds b o')[b']? = _
    unfold updL at hq
    by_cases e : b' = b
    · subst e
      rw [if_pos rfl] at hq
      simp only [Option.some.injEq] at hq; subst hq
      simp [hlt]
    · rw [if_neg e] at hq
      rw [Array.getElem?_setIfInBounds_ne (fun e' => e e'.symm)]
      refine hw.fr b' q ?_
      unfold updL
      rw [if_neg e]; exact hq

theorem neK_same {D : TypeDesc} {k k' : Value} (hp : plainKey D k = true) (h : neK k k' = true) : Instr.sameNow D k k' = some false := by
  unfold neK at h
  split at h
  · rw [Bool.and_eq_true] at h
    have h1 := of_decide_eq_true h.1
    subst h1
    unfold plainKey at hp
    split at hp
    · rename_i hk; cases hk
      simp only [Instr.sameNow, if_true, Option.some.injEq]
      simpa using h.2
    · rename_i hk; cases hk
    · simp at hp
  · unfold plainKey at hp
    split at hp
    · rename_i hk; cases hk
    · rename_i hk; cases hk
      simp only [Instr.sameNow, Option.some.injEq]
      simpa using h
    · simp at hp
  · simp at h
theorem lkA_none {D : TypeDesc} {k : Value} (hp : plainKey D k = true) : ∀ {es : List (Value × Value)}, (∀ p ∈ es, neK k p.1 = true) → lkA D k es = some []
  | [], _ => rfl
  | p :: r, h => by
    have h1 := lkA_none hp (es := r) fun q hq => h q (List.mem_cons_of_mem _ hq)
    simp only [lkA, h1, neK_same hp (h p List.mem_cons_self)]
theorem MR.perm {es es2 : List (Value × Value)} (hp : es.Perm es2) : ∀ {l : List MapEntry}, MR ρ es l → ∃ l2, MR ρ es2 l2 ∧ l2.Perm l := by
  induction hp with
  | nil => intro l h; exact ⟨l, h, .refl _⟩
  | cons x _ ih =>
    intro l h
    cases l with
    | nil => exact h.elim
    | cons y l =>
      obtain ⟨l2, h1, h2⟩ := ih h.2.2
      exact ⟨y :: l2, ⟨h.1, h.2.1, h1⟩, h2.cons _⟩
  | swap x y r =>
    intro l h
    match l, h with
    | a :: b :: l, h => exact ⟨b :: a :: l, ⟨h.2.2.1, h.2.2.2.1, h.1, h.2.1, h.2.2.2.2⟩, .swap _ _ _⟩
    | [_], h => exact h.2.2.elim
    | [], h => exact h.elim
  | trans _ _ ih1 ih2 =>
    intro l h
    obtain ⟨l1, a1, a2⟩ := ih1 h
    obtain ⟨l2, b1, b2⟩ := ih2 a1
    exact ⟨l2, b1, b2.trans a2⟩
/-- One entry more is laid. -/
theorem ents_ins {ins : List (Nat × Value × Value)} {kv v : Value} (hm : (i, kv, v) ∈ ins) (hn : (ins.map (·.1)).Nodup) (hL : Lst.getD i false = false) (hs : i < Lst.size) : (ents Lst ins ++ [(kv, v)]).Perm (ents (Lst.setIfInBounds i true) ins) := by
  induction ins with
  | nil => cases hm
  | cons q r ih =>
    simp only [List.map_cons, List.nodup_cons] at hn
    rcases List.mem_cons.1 hm with rfl | hm'
    · have hr : ents (Lst.setIfInBounds i true) r = ents Lst r := ents_set fun q hq e => hn.1 (List.mem_map.2 ⟨q, hq, e⟩)
      have e1 : ents Lst ((i, kv, v) :: r) = ents Lst r := by unfold ents; rw [List.filter_cons, if_neg (by simp only; rw [hL]; simp)]
      have e2 : ents (Lst.setIfInBounds i true) ((i, kv, v) :: r) = (kv, v) :: ents (Lst.setIfInBounds i true) r := by unfold ents; rw [List.filter_cons, if_pos (getD_set_self hs)]; rfl
      rw [e1, e2, hr]
      exact (List.perm_append_singleton _ _)
    · have ih := ih hm' hn.2
      have hqi : q.1 ≠ i := fun e => hn.1 (List.mem_map.2 ⟨_, hm', e.symm⟩)
      cases hq : Lst.getD q.1 false with
      | true =>
        have e1 : ents Lst (q :: r) = q.2 :: ents Lst r := by unfold ents; rw [List.filter_cons, if_pos hq]; rfl
        have e2 : ents (Lst.setIfInBounds i true) (q :: r) = q.2 :: ents (Lst.setIfInBounds i true) r := by unfold ents; rw [List.filter_cons, if_pos (by rw [getD_set_ne false (fun e => hqi e.symm)]; exact hq)]; rfl
        rw [e1, e2, List.cons_append]
        exact ih.cons _
      | false =>
        have e1 : ents Lst (q :: r) = ents Lst r := by unfold ents; rw [List.filter_cons, if_neg (by rw [hq]; simp)]
        have e2 : ents (Lst.setIfInBounds i true) (q :: r) = ents (Lst.setIfInBounds i true) r := by unfold ents; rw [List.filter_cons, if_neg (by rw [getD_set_ne false (fun e => hqi e.symm), hq]; simp)]
        rw [e1, e2]
        exact ih
/-- An entry is laid, really. -/
theorem ins_run {P : Program} {T : TT} {G : Nat} {h : Hp} {n : Nat} {env : En} {nt x b C : Nat} (hT : TOK P T) (hw : WR G T ρ h n L z w) (hs : SR ρ nt env a.tmps) {op : Op} {kv v : Value} (hi : insV T G env x op = some (kv, v)) (hx : ρ x = some (b, C)) {aes : List (Value × Value)} {ces : List MapEntry} {mes : Array MapEntry} {c : Nat}
    (hb : w.heap[b]? = some (.map mes c)) (hmr : MR ρ aes ces) (hpm : ces.Perm mes.toList) (hne : ∀ p ∈ aes, neK kv p.1 = true) {o : Oper} (hop : o.op = op) :
    ∃ v', VR ρ v v' ∧ (execOp a.eval o).run P w = .ok .skip { w with heap := w.heap.setIfInBounds b (.map (mes.push ⟨kv, v', c⟩) (c + 1)) } := by
  unfold insV at hi
  split at hi
  · rename_i t m kx xx
    split at hi
    · rename_i e y kv0 v0 ht hm hk hv
      split at hi
      · rename_i kt vt hd
        split at hi
        · rename_i g hg
          split at hi
          · rename_i hc
            rw [Bool.and_eq_true] at hc
            simp only [Option.some.injEq, Prod.mk.injEq] at hi
            obtain ⟨rfl, rfl⟩ := hi
            obtain rfl := Nat.eq_of_beq_eq_true hc.1
            have hp := hc.2
            have hmr' := ev_rel hw hs hm
            cases hme : a.eval m <;> rw [hme] at hmr' <;> cases hmr'
            rename_i b2 C2 hb2
            rw [hx] at hb2
            obtain ⟨rfl, rfl⟩ := Prod.mk.inj (Option.some.inj hb2)
            have hke := plainKey_vr hp (ev_rel hw hs hk)
            have hun := run_und hT ht w
            rw [hd] at hun
            have hku : ∀ w, (underlying kt).run P w = .ok g.d w := fun w => run_und hT hg w
            have hp' := fun b => run_checkKeyP (P := P) (b := b) hku hp
            obtain ⟨l1, hl1, hv1⟩ := lk_rel hmr (lkA_none hp hne)
            have hl1e : l1 = [] := by cases l1 with | nil => rfl | cons x r => exact hv1.elim
            subst hl1e
            obtain ⟨l2, hl2, hpl⟩ := lkC_perm hpm hl1
            have hl2e : l2 = [] := List.nil_perm.1 hpl
            subst hl2e
            obtain ⟨r, hr1, hr2⟩ := findNow_lk 0 hl2
            have hr3 : r = none := by simpa using hr2
            subst hr3
            refine ⟨a.eval xx, ev_rel hw hs hv, ?_⟩
            obtain ⟨dst, op, type, pos, after, guard⟩ := o
            simp only at hop
            subst hop
            simp only [execOp, hme, hke, Instr.mapUpdate, Sem.run_bind, hun, Result.andThen, Go.SL.run_getObj_map hb, hp', Instr.findKey, hku, hr1, Sem.run_pure, Go.SL.run_setObj_map _ hb]
          · simp at hi
        · simp at hi
      · simp at hi
    · simp at hi
  · simp at hi

theorem getLast_of {α : Type} {l : List α} {x : α} {q : Nat} (h : l[q]? = some x) (hl : l.length = q + 1) : l.getLast? = some x := by
  rw [List.getLast?_eq_getElem?, hl, Nat.add_sub_cancel]; exact h

/-- How many acts are done where one may come. -/
theorem IV.stage (hC : Chk X) (hI : IV X d N ρ0 L z ds ρ m s Lst a w) (ho : X.ops[i]? = some o) (hp : ∀ e ∈ o.after, Region.binds .any e = true → Lst.getD e.on false = true) {q : Nat} (hq : q ≤ d.acts.length)
    (hpre : ∀ q' e, q = q' + 1 → d.acts[q']? = some e → has (X.A.getD i 0) e = true) : q ≤ m := by
  cases q with
  | zero => omega
  | succ q' =>
    have hlt : q' < d.acts.length := by omega
    have hb : d.acts[q']? = some d.acts[q'] := by simp [hlt]
    have := hC.done hI.shut ho hp (hpre q' _ rfl hb)
    have := (hI.act q' _ hb).1 this
    omega
end Go.EV
