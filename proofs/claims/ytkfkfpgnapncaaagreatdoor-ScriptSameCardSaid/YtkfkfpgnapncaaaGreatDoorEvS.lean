import Derived.Test.YtkfkfpgnapncaaaGreatDoorEvR
set_option linter.unusedSimpArgs false
set_option linter.unusedVariables false
/-! The computed walk is right: regions that draw, whatever comes first. -/
noncomputable section
namespace Go.EV
open Go Go.RowKit Go.SL

structure IV (X : Cx) (d : Ds) (N : Nat) (ρ0 : Ren) (L : Nat → Option Obj) (z : World) (ds : List AD) (ρ : Ren) (m : Nat) (s : St) (Lst : Array Bool) (a : Act) (w : World) : Prop where
  sz : Lst.size = X.ops.size
  shut : Shut X.ops Lst
  lo : ∀ j, Lst.getD j false = true → j < N
  ext : Ext X.n₀ ρ0 ρ
  act : ∀ q b, d.acts[q]? = some b → (Lst.getD b false = true ↔ q < m)
  mle : m ≤ d.acts.length
  st : d.sts[m]? = some s
  wr : WR X.G X.T ρ (withL (fun f => Lst.getD f false) s.h.get (d.fl.filter fun q => unm X.A (d.acts.take m) q.1)) s.n L z w
  sn : X.n₀ + X.ops.size ≤ s.n
  off : ∀ f ∈ d.fl, Lst.getD f.1 false = false → ρ f.2.1 = none
  no : ∀ f ∈ d.fl, unm X.A (d.acts.take m) f.1 = true → s.h.get f.2.1 = none
  tm : a.tmps.size = X.nt
  sl1 : ∀ (j : Nat) (o : Oper) (s : Nat) (k : TK), Lst.getD j false = true → X.ops[j]? = some o → o.dst = some s → d.ks[j]? = some k → ∃ v', a.tmps[s]? = some v' ∧ VR ρ k.val v'
  sl0 : ∀ (s : Nat) (v : Value), (∀ (l : Nat) (p : Oper), X.ops[l]? = some p → p.dst ≠ some s) → X.env0.get s = some v → ∃ v', a.tmps[s]? = some v' ∧ VR ρ v v'
  df : DR ρ ds a.defers

variable {X : Cx} {d : Ds} {N : Nat} {ρ0 ρ ρ' : Ren} {L : Nat → Option Obj} {z w w' : World} {ds : List AD} {m : Nat} {s : St} {Lst : Array Bool} {a : Act} {i : Nat} {o : Oper} {ro : Option Nat} {Q : Exit → Act → World → Prop}

theorem statOne_spec {mm i : Nat} {sl : List Nat} {dst : Option Tmp} : ∀ {l : List Oper} {j : Nat}, statOk.statOne mm i sl dst j l = true → ∀ q p s, l[q]? = some p → p.dst = some s → (dst = some s → i = j + q) ∧ (s ∈ sl → has mm (j + q) = true)
  | [], j, _, q, p, s, hq, _ => by simp at hq
  | p0 :: r, j, h, q, p, s, hq, hd => by
    simp only [statOk.statOne, Bool.and_eq_true] at h
    cases q with
    | zero =>
      simp only [List.getElem?_cons_zero, Option.some.injEq] at hq
      subst hq
      rw [hd] at h
      simp only [Bool.and_eq_true, Bool.or_eq_true] at h
      obtain ⟨⟨h1, h2⟩, _⟩ := h
      refine ⟨fun e => ?_, fun hs => ?_⟩
      · subst e
        simp only [Nat.beq_refl, Bool.not_true, Bool.or_eq_true] at h1
        rcases h1 with h1 | h1
        · have := Nat.eq_of_beq_eq_true h1; omega
        · cases h1
      · rcases h2 with h2 | h2
        · exfalso
          have : sl.any (Nat.beq s) = true := List.any_eq_true.2 ⟨s, hs, Nat.beq_refl s⟩
          rw [this] at h2; cases h2
        · exact h2
    | succ q =>
      obtain ⟨h1, h2⟩ := statOne_spec h.2 q p s (by simpa using hq) hd
      exact ⟨fun e => by have := h1 e; omega, fun hs => by have := h2 hs; rwa [show j + 1 + q = j + (q + 1) by omega] at this⟩
theorem statOk_spec {ops : Array Oper} {A : List Nat} : ∀ {l : List Oper} {i : Nat}, statOk ops A i l = true → ∀ q o, l[q]? = some o → statOk.statOne (A.getD (i + q) 0) (i + q) (opSlots ops o) o.dst 0 ops.toList = true
  | [], i, _, q, o, hq => by simp at hq
  | o0 :: r, i, h, q, o, hq => by
    simp only [statOk, Bool.and_eq_true] at h
    cases q with
    | zero =>
      simp only [List.getElem?_cons_zero, Option.some.injEq] at hq
      subst hq; exact h.1
    | succ q =>
      have := statOk_spec h.2 q o (by simpa using hq)
      rwa [show i + 1 + q = i + (q + 1) by omega] at this

/-- What is checked ahead. -/
structure Chk (X : Cx) : Prop where
  A : X.A = ancs X.ops.toList []
  stat : statOk X.ops X.A 0 X.ops.toList = true
  low : lowOk 0 X.A = true
  edges : edgesLow X.ops = true

theorem Chk.uniq (h : Chk X) {i l : Nat} {o p : Oper} {s : Nat} (ho : X.ops[i]? = some o) (hp : X.ops[l]? = some p) (h1 : o.dst = some s) (h2 : p.dst = some s) : i = l := by
  have := statOk_spec h.stat i o (by simpa using ho)
  rw [Nat.zero_add] at this
  have := (statOne_spec this l p s (by simpa using hp) h2).1 h1
  omega
theorem Chk.need (h : Chk X) {i l : Nat} {o p : Oper} {s : Nat} (ho : X.ops[i]? = some o) (hp : X.ops[l]? = some p) (h2 : p.dst = some s) (hs : s ∈ opSlots X.ops o) : has (X.A.getD i 0) l = true := by
  have := statOk_spec h.stat i o (by simpa using ho)
  rw [Nat.zero_add] at this
  have := (statOne_spec this l p s (by simpa using hp) h2).2 hs
  rwa [Nat.zero_add] at this
theorem Chk.lt (h : Chk X) {i l : Nat} (hh : has (X.A.getD i 0) l = true) : l < i := by
  rw [List.getD_eq_getElem?_getD] at hh
  cases hq : X.A[i]? with
  | none => rw [hq, Option.getD_none, has_zero] at hh; cases hh
  | some mm =>
    rw [hq, Option.getD_some] at hh
    have := lowOk_spec X.A 0 h.low i mm hq l hh
    omega
theorem Chk.done (h : Chk X) (hs : Shut X.ops Lst) {i l : Nat} {o : Oper} (ho : X.ops[i]? = some o) (hp : ∀ e ∈ o.after, Region.binds .any e = true → Lst.getD e.on false = true) (hh : has (X.A.getD i 0) l = true) : Lst.getD l false = true := by
  rw [h.A] at hh
  exact anc_done hs i o l ho hp hh
theorem Chk.done2 (h : Chk X) (hs : Shut X.ops Lst) {i l : Nat} {o : Oper} (ho : X.ops[i]? = some o) (hi : Lst.getD i false = true) (hh : has (X.A.getD i 0) l = true) : Lst.getD l false = true := by
  refine h.done hs ho (fun e he hb => hs i o ho ?_ e he hb) hh
  rw [Array.getD_eq_getD_getElem?] at hi ⊢
  cases hx : Lst[i]? with
  | none => rfl
  | some b => rw [hx] at hi; exact hi

theorem getD_mono (h : Lst.getD i true = false) : Lst.getD i false = false := by
  rw [Array.getD_eq_getD_getElem?] at *
  cases hx : Lst[i]? with
  | none => rfl
  | some b => rw [hx] at h; exact h

/-- What a ready operation looks at. -/
theorem IV.sr (hC : Chk X) (hI : IV X d N ρ0 L z ds ρ m s Lst a w) (ho : X.ops[i]? = some o) (hp : ∀ e ∈ o.after, Region.binds .any e = true → Lst.getD e.on false = true) {env : En} (hE : EnvG X d.ks i o env) : SR ρ X.nt env a.tmps := by
  refine ⟨hI.tm, fun s v hs => ?_⟩
  obtain ⟨h1, h2⟩ := hE s v hs
  rcases h2 with ⟨l, p, k, _, g2, g3, g4, rfl⟩ | ⟨g1, g2⟩
  · exact hI.sl1 l p s k (hC.done hI.shut ho hp (hC.need ho g2 g3 h1)) g2 g3 g4
  · refine hI.sl0 s v (fun l p hl hd => ?_) g2
    have := hC.lt (hC.need ho hl hd h1)
    exact g1 l p this hl hd

theorem getD_set_self (hlt : i < Lst.size) : (Lst.setIfInBounds i true).getD i false = true := by
  simp [hlt]

/-- The slots behind an operation. -/
theorem IV.slots (hC : Chk X) (hD : DI X N d) (hI : IV X d N ρ0 L z ds ρ m s Lst a w) (ho : X.ops[i]? = some o) (hiN : i < N) {k : TK} (hk : d.ks[i]? = some k) (hle : Ren.le ρ ρ') {v' : Value} (hv : VR ρ' k.val v') :
    (a.put o.dst v').tmps.size = X.nt ∧ (∀ (j : Nat) (o1 : Oper) (s : Nat) (k : TK), (Lst.setIfInBounds i true).getD j false = true → X.ops[j]? = some o1 → o1.dst = some s → d.ks[j]? = some k → ∃ v1, (a.put o.dst v').tmps[s]? = some v1 ∧ VR ρ' k.val v1) ∧
    (∀ (s : Nat) (v : Value), (∀ (l : Nat) (p : Oper), X.ops[l]? = some p → p.dst ≠ some s) → X.env0.get s = some v → ∃ v1, (a.put o.dst v').tmps[s]? = some v1 ∧ VR ρ' v v1) := by
  have hput : ∀ s, o.dst ≠ some s → (a.put o.dst v').tmps[s]? = a.tmps[s]? := fun s hs => by
    cases hd : o.dst with
    | none => rfl
    | some t =>
      show (a.tmps.setIfInBounds t v')[s]? = _
      rw [Array.getElem?_setIfInBounds_ne (fun e => hs (by rw [hd, e]))]
  have hself : ∀ s, o.dst = some s → (a.put o.dst v').tmps[s]? = some v' := fun s hs => by
    have hlt := (hD.dst i o s hiN ho hs).1
    rw [hs]
    show (a.tmps.setIfInBounds s v')[s]? = _
    simp [hI.tm, hlt]
  refine ⟨?_, fun j o1 s k1 hj ho1 hs hk1 => ?_, fun s v hs hv0 => ?_⟩
  · cases hd : o.dst with
    | none => exact hI.tm
    | some t => show (a.tmps.setIfInBounds t v').size = _; simp [hI.tm]
  · by_cases e : j = i
    · subst e
      rw [ho] at ho1
      obtain rfl := Option.some.inj ho1
      rw [hk] at hk1
      obtain rfl := Option.some.inj hk1
      exact ⟨v', hself s hs, hv⟩
    · rw [getD_set_ne false (fun h => e h.symm)] at hj
      obtain ⟨v1, h1, h2⟩ := hI.sl1 j o1 s k1 hj ho1 hs hk1
      exact ⟨v1, by rw [hput s (fun hs' => e (hC.uniq ho1 ho hs hs'))]; exact h1, h2.mono hle⟩
  · obtain ⟨v1, h1, h2⟩ := hI.sl0 s v hs hv0
    exact ⟨v1, by rw [hput s (hs i o ho)]; exact h1, h2.mono hle⟩

theorem unm_take {A : List Nat} {acts : List Nat} {q f : Nat} (h : unm A (acts.take q) f = true) {q' b : Nat} (hb : acts[q']? = some b) (hq : q' < q) : has (A.getD b 0) f = false := by
  unfold unm at h
  have := List.all_eq_true.1 h b (List.mem_of_getElem? (i := q') (by rw [List.getElem?_take, if_pos hq]; exact hb))
  simpa using this
theorem unm_of {A : List Nat} {acts : List Nat} {q f : Nat} (h : ∀ q' b, acts[q']? = some b → q' < q → has (A.getD b 0) f = false) : unm A (acts.take q) f = true := by
  unfold unm
  refine List.all_eq_true.2 fun b hb => ?_
  obtain ⟨q', hq'⟩ := List.getElem?_of_mem hb
  rw [List.getElem?_take] at hq'
  split at hq'
  · rename_i hlt; rw [h q' b hq' hlt]; rfl
  · cases hq'

/-- An operation that lays no block and is no act. -/
theorem IV.calm (hC : Chk X) (hD : DI X N d) (hI : IV X d N ρ0 L z ds ρ m s Lst a w) (hi : i ∈ Region.ready .any X.ops Lst) (ho : X.ops[i]? = some o) (hiN : i < N) {k : TK} (hk : d.ks[i]? = some k) (hna : ∀ v, k ≠ .act v) (hnf : ∀ ao mk x, k ≠ .flt ao mk x) {v' : Value} (hv : VR ρ k.val v') :
    IV X d N ρ0 L z ds ρ m s (Lst.setIfInBounds i true) (a.put o.dst v') w := by
  obtain ⟨hun, o', ho', hp⟩ := mem_ready.1 hi
  rw [ho] at ho'
  obtain rfl := Option.some.inj ho'
  obtain ⟨h1, h2, h3⟩ := hI.slots hC hD ho hiN hk (Ren.le.refl _) hv
  have hsz : i < Lst.size := by rw [hI.sz]; exact (Array.getElem?_eq_some_iff.1 ho).1
  have hfl : ∀ f ∈ d.fl, f.1 ≠ i := fun f hf e => by
    obtain ⟨_, _, _, mk, hk'⟩ := hD.flI f hf
    rw [e, hk] at hk'
    exact hnf _ _ _ (Option.some.inj hk')
  refine ⟨by simp [hI.sz], hI.shut.set hi, fun j hj => ?_, hI.ext, fun q b hb => ?_, hI.mle, hI.st, ?_, hI.sn, fun f hf hL => ?_, hI.no, h1, h2, h3, by rw [put_df]; exact hI.df⟩
  · by_cases e : j = i
    · omega
    · rw [getD_set_ne false (fun h => e h.symm)] at hj; exact hI.lo j hj
  · have hbi : b ≠ i := fun e => by
      obtain ⟨_, v, hk'⟩ := hD.actI b (List.mem_of_getElem? hb)
      rw [e, hk] at hk'
      exact hna _ (Option.some.inj hk')
    rw [getD_set_ne false (fun h => hbi h.symm)]
    exact hI.act q b hb
  · have : withL (fun f => (Lst.setIfInBounds i true).getD f false) s.h.get (d.fl.filter fun q => unm X.A (d.acts.take m) q.1) = withL (fun f => Lst.getD f false) s.h.get (d.fl.filter fun q => unm X.A (d.acts.take m) q.1) := withL_cong fun q hq => by
      rw [getD_set_ne false (fun h => hfl q (List.mem_filter.1 hq).1 h.symm)]
    rw [this]; exact hI.wr
  · rw [getD_set_ne false (fun h => hfl f hf h.symm)] at hL
    exact hI.off f hf hL

/-- The same, where something else of memory is written, or a number is given a place. -/
theorem IV.calmG {L' : Nat → Option Obj} (hC : Chk X) (hD : DI X N d) (hI : IV X d N ρ0 L z ds ρ m s Lst a w) (hi : i ∈ Region.ready .any X.ops Lst) (ho : X.ops[i]? = some o) (hiN : i < N) {k : TK} (hk : d.ks[i]? = some k) (hna : ∀ v, k ≠ .act v) (hnf : ∀ ao mk x, k ≠ .flt ao mk x) {v' : Value} (hv : VR ρ' k.val v')
    (hle : Ren.le ρ ρ') (hext : Ext X.n₀ ρ0 ρ') (hoff : ∀ f ∈ d.fl, ρ' f.2.1 = ρ f.2.1) (hw : WR X.G X.T ρ' (withL (fun f => Lst.getD f false) s.h.get (d.fl.filter fun q => unm X.A (d.acts.take m) q.1)) s.n L' z w') :
    IV X d N ρ0 L' z ds ρ' m s (Lst.setIfInBounds i true) (a.put o.dst v') w' := by
  obtain ⟨hun, o', ho', hp⟩ := mem_ready.1 hi
  rw [ho] at ho'
  obtain rfl := Option.some.inj ho'
  obtain ⟨h1, h2, h3⟩ := hI.slots hC hD ho hiN hk hle hv
  have hsz : i < Lst.size := by rw [hI.sz]; exact (Array.getElem?_eq_some_iff.1 ho).1
  have hfl : ∀ f ∈ d.fl, f.1 ≠ i := fun f hf e => by
    obtain ⟨_, _, _, mk, hk'⟩ := hD.flI f hf
    rw [e, hk] at hk'
    exact hnf _ _ _ (Option.some.inj hk')
  refine ⟨by simp [hI.sz], hI.shut.set hi, fun j hj => ?_, hext, fun q b hb => ?_, hI.mle, hI.st, ?_, hI.sn, fun f hf hL => ?_, hI.no, h1, h2, h3, by rw [put_df]; exact hI.df.mono hle⟩
  · by_cases e : j = i
    · omega
    · rw [getD_set_ne false (fun h => e h.symm)] at hj; exact hI.lo j hj
  · have hbi : b ≠ i := fun e => by
      obtain ⟨_, v, hk'⟩ := hD.actI b (List.mem_of_getElem? hb)
      rw [e, hk] at hk'
      exact hna _ (Option.some.inj hk')
    rw [getD_set_ne false (fun h => hbi h.symm)]
    exact hI.act q b hb
  · have : withL (fun f => (Lst.setIfInBounds i true).getD f false) s.h.get (d.fl.filter fun q => unm X.A (d.acts.take m) q.1) = withL (fun f => Lst.getD f false) s.h.get (d.fl.filter fun q => unm X.A (d.acts.take m) q.1) := withL_cong fun q hq => by
      rw [getD_set_ne false (fun h => hfl q (List.mem_filter.1 hq).1 h.symm)]
    rw [this]; exact hw
  · rw [getD_set_ne false (fun h => hfl f hf h.symm)] at hL
    rw [hoff f hf]
    exact hI.off f hf hL

theorem nodup_filter {l : Fls} {p : Nat × Nat × AO → Bool} (h : (l.map (·.1)).Nodup) : ((l.filter p).map (·.1)).Nodup := by
  exact h.sublist ((List.filter_sublist).map _)
theorem DI.flN2 (hD : DI X N d) : (d.fl.map (·.2.1)).Nodup := by
  have h := hD.flN
  have hI := hD.flI
  clear hD
  generalize d.fl = l at *
  induction l with
  | nil => simp
  | cons f r ih =>
    simp only [List.map_cons, List.nodup_cons] at h ⊢
    refine ⟨fun hm => ?_, ih h.2 fun g hg => hI g (List.mem_cons_of_mem _ hg)⟩
    obtain ⟨g, hg, he⟩ := List.mem_map.1 hm
    have h1 := (hI f List.mem_cons_self).2.1
    have h2 := (hI g (List.mem_cons_of_mem _ hg)).2.1
    exact h.1 (List.mem_map.2 ⟨g, hg, by omega⟩)
theorem nodup_filter2 {l : Fls} {p : Nat × Nat × AO → Bool} (h : (l.map (·.2.1)).Nodup) : ((l.filter p).map (·.2.1)).Nodup := by
  exact h.sublist ((List.filter_sublist).map _)

/-- What an operation sees of memory: what it waits for. -/
theorem IV.seen (hC : Chk X) (hD : DI X N d) (hI : IV X d N ρ0 L z ds ρ m s Lst a w) (ho : X.ops[i]? = some o) (hp : ∀ e ∈ o.after, Region.binds .any e = true → Lst.getD e.on false = true) :
    WR X.G X.T ρ (withF X.A (X.A.getD i 0) (d.acts.take m) s.h d.fl).get s.n L z w := by
  rw [withF_get fun q hq => (hD.flI q hq).2.2.1]
  refine hI.wr.sub (withL_sub (fun f hf => hC.done hI.shut ho hp hf) (nodup_filter2 hD.flN2) fun q hq => ?_)
  obtain ⟨h1, h2⟩ := List.mem_filter.1 hq
  exact hI.no q h1 h2
end Go.EV
