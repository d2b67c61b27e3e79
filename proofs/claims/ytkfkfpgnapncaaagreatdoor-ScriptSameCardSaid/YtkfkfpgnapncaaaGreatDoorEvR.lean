import Derived.Test.YtkfkfpgnapncaaaGreatDoorEvM
set_option linter.unusedSimpArgs false
set_option linter.unusedVariables false
/-! The computed walk is right: regions that draw. What the walk has found out. -/
noncomputable section
namespace Go.EV
open Go Go.RowKit Go.SL

structure Cx where
  P : Program
  T : TT
  G : Nat
  orc : Orc
  nt : Nat
  n₀ : Nat
  ops : Array Oper
  A : List Nat
  env0 : En
  s0 : St

/-- What a frame's part that an operation looks at holds. -/
def EnvG (X : Cx) (ks : List TK) (j : Nat) (o : Oper) (env : En) : Prop := ∀ s v, env.get s = some v → s ∈ opSlots X.ops o ∧
  ((∃ l p k, l < j ∧ X.ops[l]? = some p ∧ p.dst = some s ∧ ks[l]? = some k ∧ v = k.val) ∨ ((∀ l p, l < j → X.ops[l]? = some p → p.dst ≠ some s) ∧ X.env0.get s = some v))

def Fact (X : Cx) (d : Ds) (j : Nat) (o : Oper) : TK → Prop
  | .pure v => ∃ env, EnvG X d.ks j o env ∧ ((wantE X.ops env o = some false ∧ v = undef) ∨ (wantE X.ops env o = some true ∧ lookV X.T X.G X.orc.eq env .leaf o.op = some v))
  | .look _ => ∃ env, EnvG X d.ks j o env ∧ wantE X.ops env o = some true
  | .flt ao mk x => ∃ env, EnvG X d.ks j o env ∧ wantE X.ops env o = some true ∧ fltV X.T X.G env o.op = some (ao, mk) ∧ x = X.n₀ + j ∧ (j, x, ao) ∈ d.fl
  | .mmap x => ∃ env, EnvG X d.ks j o env ∧ wantE X.ops env o = some true ∧ isMk o.op = true ∧ x = X.n₀ + j ∧ d.mp = some (j, x)
  | .ins kv v => ∃ env f x, EnvG X d.ks j o env ∧ wantE X.ops env o = some true ∧ d.mp = some (f, x) ∧ insV X.T X.G env x o.op = some (kv, v) ∧ o.dst = none ∧ (j, kv, v) ∈ d.ins ∧ has (X.A.getD j 0) f = true
  | .act v => ∃ env q s st fl1 fl2, EnvG X d.ks j o env ∧ wantE X.ops env o = some true ∧ d.acts[q]? = some j ∧ d.sts[q]? = some s ∧ d.sts[q + 1]? = some st ∧ (∀ q' e, q = q' + 1 → d.acts[q']? = some e → has (X.A.getD j 0) e = true) ∧
      d.fl = fl1 ++ fl2 ∧ (∀ f ∈ fl1, j ≤ f.1) ∧ evOp X.T X.G X.orc env { s with h := withF X.A (X.A.getD j 0) (d.acts.take q) s.h fl2 } o.op = some (.val v st)

structure DI (X : Cx) (i : Nat) (d : Ds) : Prop where
  le : i ≤ X.ops.size
  len : d.ks.length = i
  fact : ∀ j o k, X.ops[j]? = some o → d.ks[j]? = some k → Fact X d j o k
  env : ∀ s v, d.env.get s = some v → (∃ l p k, l < i ∧ X.ops[l]? = some p ∧ p.dst = some s ∧ d.ks[l]? = some k ∧ v = k.val) ∨ ((∀ l p, l < i → X.ops[l]? = some p → p.dst ≠ some s) ∧ X.env0.get s = some v)
  dst : ∀ j o s, j < i → X.ops[j]? = some o → o.dst = some s → s < X.nt ∧ Tri.fits s = true
  flI : ∀ f ∈ d.fl, f.1 < i ∧ f.2.1 = X.n₀ + f.1 ∧ Tri.fits f.2.1 = true ∧ ∃ mk, d.ks[f.1]? = some (.flt f.2.2 mk f.2.1)
  flN : (d.fl.map (·.1)).Nodup
  sts : d.sts.length = d.acts.length + 1
  st0 : d.sts[0]? = some X.s0
  actI : ∀ a ∈ d.acts, a < i ∧ ∃ v, d.ks[a]? = some (.act v)
  actN : d.acts.Nodup
  mpI : ∀ f x, d.mp = some (f, x) → f < i ∧ x = X.n₀ + f ∧ Tri.fits x = true ∧ d.ks[f]? = some (.mmap x)
  insI : ∀ q ∈ d.ins, q.1 < i ∧ d.ks[q.1]? = some (.ins q.2.1 q.2.2)
  insN : (d.ins.map (·.1)).Nodup
  insK : ∀ q ∈ d.ins, ∀ q' ∈ d.ins, q.1 ≠ q'.1 → neK q.2.1 q'.2.1 = true

theorem pickE_get {env : En} : ∀ {l : List Nat} {s : Nat} {v : Value}, (pickE env l).get s = some v → s ∈ l ∧ env.get s = some v
  | [], s, v, h => by simp [pickE, Tri.get_leaf] at h
  | t :: r, s, v, h => by
    simp only [pickE] at h
    split at h
    · rename_i u hu hf
      rw [Tri.get_set hf] at h
      by_cases e : s = t
      · subst e
        rw [if_pos rfl] at h
        simp only [Option.some.injEq] at h; subst h
        exact ⟨List.mem_cons_self, hu⟩
      · rw [if_neg e] at h
        obtain ⟨h1, h2⟩ := pickE_get h
        exact ⟨List.mem_cons_of_mem _ h1, h2⟩
    · obtain ⟨h1, h2⟩ := pickE_get h
      exact ⟨List.mem_cons_of_mem _ h1, h2⟩

variable {X : Cx} {i : Nat} {d d' : Ds} {o : Oper}

theorem DI.pick (h : DI X i d) (o : Oper) : EnvG X d.ks i o (pickE d.env (opSlots X.ops o)) := fun s v hs => by
  obtain ⟨h1, h2⟩ := pickE_get hs
  exact ⟨h1, h.env s v h2⟩

theorem get_snoc {α : Type} {l : List α} {x k : α} {j : Nat} (h : l[j]? = some k) : (l ++ [x])[j]? = some k := by
  rw [List.getElem?_append_left (List.getElem?_eq_some_iff.1 h).1]; exact h
theorem get_snoc_inv {α : Type} {l : List α} {x k : α} {j : Nat} (h : (l ++ [x])[j]? = some k) : l[j]? = some k ∨ (j = l.length ∧ k = x) := by
  by_cases hj : j < l.length
  · rw [List.getElem?_append_left hj] at h; exact .inl h
  · rw [List.getElem?_append_right (by omega)] at h
    have : j - l.length = 0 := by
      cases hq : j - l.length with
      | zero => rfl
      | succ q => rw [hq] at h; simp at h
    rw [this] at h
    simp only [List.getElem?_cons_zero, Option.some.injEq] at h
    exact .inr ⟨by omega, h.symm⟩

theorem EnvG.snoc {ks : List TK} {j : Nat} {env : En} (h : EnvG X ks j o env) (k : TK) : EnvG X (ks ++ [k]) j o env := fun s v hs => by
  obtain ⟨h1, h2⟩ := h s v hs
  refine ⟨h1, ?_⟩
  rcases h2 with ⟨l, p, k', h3, h4, h5, h6, h7⟩ | h2
  · exact .inl ⟨l, p, k', h3, h4, h5, get_snoc h6, h7⟩
  · exact .inr h2

/-- More is known behind a further operation. -/
theorem Fact.ext {j : Nat} {k k0 : TK} {fl1 : Fls} {as : List Nat} {ss : List St} {env' : En} {mp' : Option (Nat × Nat)} {is : List (Nat × Value × Value)} (h : Fact X d j o k) (hf : ∀ f ∈ fl1, j ≤ f.1) (hmp : d.mp ≠ none → mp' = d.mp) :
    Fact X { env := env', fl := fl1 ++ d.fl, ks := d.ks ++ [k0], acts := d.acts ++ as, sts := d.sts ++ ss, mp := mp', ins := d.ins ++ is } j o k := by
  cases k with
  | pure v => obtain ⟨env, h1, h2⟩ := h; exact ⟨env, h1.snoc _, h2⟩
  | look v => obtain ⟨env, h1, h2⟩ := h; exact ⟨env, h1.snoc _, h2⟩
  | flt ao mk x => obtain ⟨env, h1, h2, h3, h4, h5⟩ := h; exact ⟨env, h1.snoc _, h2, h3, h4, List.mem_append_right _ h5⟩
  | mmap x => obtain ⟨env, h1, h2, h3, h4, h5⟩ := h; exact ⟨env, h1.snoc _, h2, h3, h4, by show mp' = _; rw [hmp (by rw [h5]; simp)]; exact h5⟩
  | ins kv v => obtain ⟨env, f, x, h1, h2, h3, h4, h5, h6, h7⟩ := h; exact ⟨env, f, x, h1.snoc _, h2, by show mp' = _; rw [hmp (by rw [h3]; simp)]; exact h3, h4, h5, List.mem_append_left _ h6, h7⟩
  | act v =>
    obtain ⟨env, q, s, st, g1, g2, h1, h2, h3, h4, h5, h6, h7, h8, h9⟩ := h
    have hq : q < d.acts.length := (List.getElem?_eq_some_iff.1 h3).1
    refine ⟨env, q, s, st, fl1 ++ g1, g2, h1.snoc _, h2, ?_, ?_, ?_, ?_, ?_, ?_, ?_⟩
    · show (d.acts ++ as)[q]? = some j
      rw [List.getElem?_append_left hq]; exact h3
    · show (d.sts ++ ss)[q]? = some s
      rw [List.getElem?_append_left (List.getElem?_eq_some_iff.1 h4).1]; exact h4
    · show (d.sts ++ ss)[q + 1]? = some st
      rw [List.getElem?_append_left (List.getElem?_eq_some_iff.1 h5).1]; exact h5
    · intro q' e hq' he
      refine h6 q' e hq' ?_
      have he : (d.acts ++ as)[q']? = some e := he
      rwa [List.getElem?_append_left (by omega)] at he
    · show fl1 ++ d.fl = fl1 ++ g1 ++ g2
      rw [h7, List.append_assoc]
    · intro f hf'
      rcases List.mem_append.1 hf' with h | h
      · exact hf f h
      · exact h8 f h
    · have ht : (d.acts ++ as).take q = d.acts.take q := List.take_append_of_le_length (by omega)
      show evOp X.T X.G X.orc env { s with h := withF X.A (X.A.getD j 0) ((d.acts ++ as).take q) s.h g2 } o.op = _
      rw [ht]; exact h9

theorem putE_get {nt : Nat} {env env' : En} {dst : Option Tmp} {v : Value} (hp : putE nt env dst v = some env') : (∀ s, dst ≠ some s → env'.get s = env.get s) ∧ (∀ s, dst = some s → s < nt ∧ Tri.fits s = true ∧ env'.get s = some v) := by
  unfold putE at hp
  split at hp
  · simp only [Option.some.injEq] at hp; subst hp
    exact ⟨fun _ _ => rfl, fun s h => by cases h⟩
  · rename_i d
    split at hp
    · rename_i hc
      simp only [Bool.and_eq_true] at hc
      simp only [Option.some.injEq] at hp; subst hp
      refine ⟨fun s hs => ?_, fun s hs => ?_⟩
      · rw [Tri.get_set hc.2, if_neg (fun e => hs (by rw [e]))]
      · obtain rfl := Option.some.inj hs
        exact ⟨Nat.lt_of_succ_le (Nat.le_of_ble_eq_true hc.1), hc.2, by rw [Tri.get_set hc.2, if_pos rfl]⟩
    · simp at hp

/-- The slots behind one more operation. -/
theorem DI.env1 (h : DI X i d) (ho : X.ops[i]? = some o) {env' : En} {k : TK} (hp : putE X.nt d.env o.dst k.val = some env') :
    ∀ s v, env'.get s = some v → (∃ l p k', l < i + 1 ∧ X.ops[l]? = some p ∧ p.dst = some s ∧ (d.ks ++ [k])[l]? = some k' ∧ v = k'.val) ∨ ((∀ l p, l < i + 1 → X.ops[l]? = some p → p.dst ≠ some s) ∧ X.env0.get s = some v) := by
  intro s v hs
  obtain ⟨h1, h2⟩ := putE_get hp
  by_cases hd : o.dst = some s
  · obtain ⟨_, _, h3⟩ := h2 s hd
    rw [hs] at h3
    obtain rfl := Option.some.inj h3
    refine .inl ⟨i, o, k, by omega, ho, hd, ?_, rfl⟩
    rw [List.getElem?_append_right (by rw [h.len]; omega), h.len, Nat.sub_self]; rfl
  · rw [h1 s hd] at hs
    rcases h.env s v hs with ⟨l, p, k', a1, a2, a3, a4, a5⟩ | ⟨a1, a2⟩
    · exact .inl ⟨l, p, k', by omega, a2, a3, get_snoc a4, a5⟩
    · refine .inr ⟨fun l p hl hp' => ?_, a2⟩
      by_cases e : l = i
      · subst e; rw [ho] at hp'; obtain rfl := Option.some.inj hp'; exact hd
      · exact a1 l p (by omega) hp'

theorem DI.next (h : DI X i d) (ho : X.ops[i]? = some o) {env' : En} {k : TK} {fl1 : Fls} {as : List Nat} {ss : List St} {mp' : Option (Nat × Nat)} {is : List (Nat × Value × Value)} (hmp : d.mp ≠ none → mp' = d.mp) (hmp2 : ∀ f x, mp' = some (f, x) → d.mp = none → f = i ∧ x = X.n₀ + i ∧ Tri.fits x = true ∧ k = .mmap x)
    (his : ∀ q ∈ is, q.1 = i ∧ k = .ins q.2.1 q.2.2 ∧ d.ins.all (fun q' => neK q'.2.1 q.2.1 && neK q.2.1 q'.2.1) = true) (hisn : (is.map (·.1)).Nodup) (hp : putE X.nt d.env o.dst k.val = some env')
    (hfl : ∀ f ∈ fl1, f.1 = i ∧ f.2.1 = X.n₀ + i ∧ Tri.fits f.2.1 = true ∧ ∃ mk, k = .flt f.2.2 mk f.2.1) (hfn : (fl1.map (·.1)).Nodup) (has_ : as.length = ss.length) (has2 : ∀ a ∈ as, a = i ∧ ∃ v, k = .act v) (hasn : as.Nodup)
    (hk : Fact X { env := env', fl := fl1 ++ d.fl, ks := d.ks ++ [k], acts := d.acts ++ as, sts := d.sts ++ ss, mp := mp', ins := d.ins ++ is } i o k) : DI X (i + 1) { env := env', fl := fl1 ++ d.fl, ks := d.ks ++ [k], acts := d.acts ++ as, sts := d.sts ++ ss, mp := mp', ins := d.ins ++ is } := by
  have hi : i < X.ops.size := (Array.getElem?_eq_some_iff.1 ho).1
  have hlast : (d.ks ++ [k])[i]? = some k := by rw [List.getElem?_append_right (by rw [h.len]; omega), h.len, Nat.sub_self]; rfl
  refine ⟨hi, by simp [h.len], fun j p k' hj hk' => ?_, h.env1 ho hp, fun j p s hj hp' hd => ?_, fun f hf => ?_, ?_, ?_, ?_, fun a ha => ?_, ?_, fun f x hfx => ?_, fun q hq => ?_, ?_, fun q hq q' hq' hne => ?_⟩
  · rcases get_snoc_inv hk' with h1 | ⟨h1, h2⟩
    · have hji : j < i := by have := (List.getElem?_eq_some_iff.1 h1).1; rw [h.len] at this; exact this
      exact (h.fact j p k' hj h1).ext (fun f hf => by rw [(hfl f hf).1]; omega) hmp
    · rw [h.len] at h1
      subst h1; subst h2
      rw [ho] at hj
      obtain rfl := Option.some.inj hj
      exact hk
  · by_cases e : j = i
    · subst e
      rw [ho] at hp'
      obtain rfl := Option.some.inj hp'
      obtain ⟨a1, a2, _⟩ := (putE_get hp).2 s hd
      exact ⟨a1, a2⟩
    · exact h.dst j p s (by omega) hp' hd
  · rcases List.mem_append.1 hf with hf | hf
    · obtain ⟨a1, a2, a3, mk, a4⟩ := hfl f hf
      refine ⟨by omega, by rw [a1]; exact a2, a3, mk, ?_⟩
      rw [a1, ← a4]; exact hlast
    · obtain ⟨a1, a2, a3, mk, a4⟩ := h.flI f hf
      exact ⟨by omega, a2, a3, mk, get_snoc a4⟩
  · rw [List.map_append, List.nodup_append]
    refine ⟨hfn, h.flN, fun x hx y hy e => ?_⟩
    obtain ⟨f, hf, rfl⟩ := List.mem_map.1 hx
    obtain ⟨g, hg, rfl⟩ := List.mem_map.1 hy
    have h1 := (hfl f hf).1
    have h2 := (h.flI g hg).1
    omega
  · show (d.sts ++ ss).length = (d.acts ++ as).length + 1
    simp [h.sts, has_]; omega
  · show (d.sts ++ ss)[0]? = _
    rw [List.getElem?_append_left (by rw [h.sts]; omega)]; exact h.st0
  · rcases List.mem_append.1 ha with ha | ha
    · obtain ⟨a1, v, a2⟩ := h.actI a ha
      exact ⟨by omega, v, get_snoc a2⟩
    · obtain ⟨a1, v, a2⟩ := has2 a ha
      exact ⟨by omega, v, by rw [a1, ← a2]; exact hlast⟩
  · show (d.acts ++ as).Nodup
    rw [List.nodup_append]
    refine ⟨h.actN, hasn, fun x hx y hy e => ?_⟩
    have h1 := (h.actI x hx).1
    have h2 := (has2 y hy).1
    omega
  · have hfx : mp' = some (f, x) := hfx
    cases hm : d.mp with
    | none =>
      obtain ⟨a1, a2, a3, a4⟩ := hmp2 f x hfx hm
      exact ⟨by omega, by rw [a1]; exact a2, a3, by rw [a1, ← a4]; exact hlast⟩
    | some q =>
      have := hmp (by rw [hm]; simp)
      rw [this] at hfx
      obtain ⟨a1, a2, a3, a4⟩ := h.mpI f x hfx
      exact ⟨by omega, a2, a3, get_snoc a4⟩
  · rcases List.mem_append.1 hq with hq | hq
    · obtain ⟨a1, a2⟩ := h.insI q hq
      exact ⟨by omega, get_snoc a2⟩
    · obtain ⟨a1, a2, _⟩ := his q hq
      exact ⟨by omega, by rw [a1, ← a2]; exact hlast⟩
  · show ((d.ins ++ is).map (·.1)).Nodup
    rw [List.map_append, List.nodup_append]
    refine ⟨h.insN, hisn, fun x hx y hy e => ?_⟩
    obtain ⟨f, hf, rfl⟩ := List.mem_map.1 hx
    obtain ⟨g, hg, rfl⟩ := List.mem_map.1 hy
    have h1 := (h.insI f hf).1
    have h2 := (his g hg).1
    omega
  · rcases List.mem_append.1 hq with hq | hq
    · rcases List.mem_append.1 hq' with hq' | hq'
      · exact h.insK q hq q' hq' hne
      · have := List.all_eq_true.1 (his q' hq').2.2 q hq
        rw [Bool.and_eq_true] at this
        exact this.1
    · rcases List.mem_append.1 hq' with hq' | hq'
      · have := List.all_eq_true.1 (his q hq).2.2 q' hq'
        rw [Bool.and_eq_true] at this
        exact this.2
      · exact absurd ((his q hq).1.trans (his q' hq').1.symm) hne

/-- The operation at which it panics. -/
def PanF (X : Cx) (d : Ds) (N : Nat) (v : Value) (st : St) : Prop := ∃ o env s, X.ops[N]? = some o ∧ EnvG X d.ks N o env ∧ wantE X.ops env o = some true ∧ d.sts.getLast? = some s ∧ (∀ e, d.acts.getLast? = some e → has (X.A.getD N 0) e = true) ∧
  evOp X.T X.G X.orc env { s with h := withF X.A (X.A.getD N 0) d.acts s.h d.fl } o.op = some (.pan v st) ∧ (X.A.drop (N + 1)).all (has · N) = true

theorem draw2_ok (h : DI X i d) (ho : X.ops[i]? = some o) (hwt : wantE X.ops (pickE d.env (opSlots X.ops o)) o = some true) (hr : draw2 X.T X.G X.nt X.n₀ (X.A.getD i 0) i o (pickE d.env (opSlots X.ops o)) d = some d') : DI X (i + 1) d' := by
  have hpk := h.pick o
  unfold draw2 at hr
  split at hr
  · rename_i hmk hmp
    split at hr
    · rename_i env' hf hp
      simp only [Option.some.injEq] at hr; subst hr
      have := h.next (k := .mmap (X.n₀ + i)) (fl1 := []) (as := []) (ss := []) (mp' := some (i, X.n₀ + i)) (is := []) ho (fun h => absurd hmp h) (fun f x h1 _ => by
          simp only [Option.some.injEq, Prod.mk.injEq] at h1
          obtain ⟨rfl, rfl⟩ := h1
          exact ⟨rfl, rfl, hf, rfl⟩) (fun q hq => nomatch hq) (by simp) hp (fun f hf => by cases hf) (by simp) rfl (fun a ha => by cases ha) (by simp) ⟨_, hpk.snoc _, hwt, hmk, rfl, rfl⟩
      simpa using this
    · simp at hr
  · simp at hr
  · rename_i f x hmk hmp
    split at hr
    · rename_i kv v hin hd
      split at hr
      · rename_i hall
        rw [Bool.and_eq_true] at hall
        obtain ⟨hanc, hall⟩ := hall
        simp only [Option.some.injEq] at hr; subst hr
        have hp : putE X.nt d.env o.dst (TK.ins kv v).val = some d.env := by rw [hd]; rfl
        have := h.next (k := .ins kv v) (fl1 := []) (as := []) (ss := []) (mp' := d.mp) (is := [(i, kv, v)]) ho (fun _ => rfl) (fun f x h1 h2 => by rw [h2] at h1; cases h1) (fun q hq => by
            simp only [List.mem_singleton] at hq; subst hq
            exact ⟨rfl, rfl, hall⟩) (by simp) hp (fun f hf => by cases hf) (by simp) rfl (fun a ha => by cases ha) (by simp) ⟨_, f, x, hpk.snoc _, hwt, hmp, hin, hd, by simp, hanc⟩
        simpa using this
      · simp at hr
    · simp at hr
  · simp at hr

theorem draw1_go (h : DI X i d) (ho : X.ops[i]? = some o) (hr : evDraw1 X.T X.G X.orc X.nt X.n₀ X.ops X.A i o d = some (.go d')) : DI X (i + 1) d' := by
  have hpk := h.pick o
  unfold evDraw1 at hr
  cases hs : d.sts.getLast? with
  | none => simp only [hs, reduceCtorEq] at hr
  | some s =>
  simp only [hs] at hr
  cases hwt : wantE X.ops (pickE d.env (opSlots X.ops o)) o with
  | none => simp only [hwt, reduceCtorEq] at hr
  | some b =>
  cases b with
  | false =>
    simp only [hwt] at hr
    cases hp : putE X.nt d.env o.dst undef with
    | none => simp only [hp, reduceCtorEq] at hr
    | some env' =>
      simp only [hp, Option.some.injEq, Dr.go.injEq] at hr; subst hr
      have := h.next (k := .pure undef) (fl1 := []) (as := []) (ss := []) (mp' := d.mp) (is := []) ho (fun _ => rfl) (fun f x h1 h2 => by rw [h2] at h1; cases h1) (fun q hq => nomatch hq) (by simp) hp (fun f hf => by cases hf) (by simp) rfl (fun a ha => by cases ha) (by simp) ⟨_, hpk.snoc _, .inl ⟨hwt, rfl⟩⟩
      simpa using this
  | true =>
  simp only [hwt] at hr
  cases hv : lookV X.T X.G X.orc.eq (pickE d.env (opSlots X.ops o)) .leaf o.op with
  | some v =>
    simp only [hv] at hr
    cases hp : putE X.nt d.env o.dst v with
    | none => simp only [hp, reduceCtorEq] at hr
    | some env' =>
      simp only [hp, Option.some.injEq, Dr.go.injEq] at hr; subst hr
      have := h.next (k := .pure v) (fl1 := []) (as := []) (ss := []) (mp' := d.mp) (is := []) ho (fun _ => rfl) (fun f x h1 h2 => by rw [h2] at h1; cases h1) (fun q hq => nomatch hq) (by simp) hp (fun f hf => by cases hf) (by simp) rfl (fun a ha => by cases ha) (by simp) ⟨_, hpk.snoc _, .inr ⟨hwt, hv⟩⟩
      simpa using this
  | none =>
  simp only [hv] at hr
  cases hv0 : draw2 X.T X.G X.nt X.n₀ (X.A.getD i 0) i o (pickE d.env (opSlots X.ops o)) d with
  | some d0 =>
    simp only [hv0, Option.some.injEq, Dr.go.injEq] at hr; subst hr
    exact draw2_ok h ho hwt hv0
  | none =>
  simp only [hv0] at hr
  cases hv2 : lookV X.T X.G X.orc.eq (pickE d.env (opSlots X.ops o)) (withF X.A (X.A.getD i 0) d.acts s.h d.fl) o.op with
  | some v =>
    simp only [hv2] at hr
    cases hp : putE X.nt d.env o.dst v with
    | none => simp only [hp, reduceCtorEq] at hr
    | some env' =>
      simp only [hp, Option.some.injEq, Dr.go.injEq] at hr; subst hr
      have := h.next (k := .look v) (fl1 := []) (as := []) (ss := []) (mp' := d.mp) (is := []) ho (fun _ => rfl) (fun f x h1 h2 => by rw [h2] at h1; cases h1) (fun q hq => nomatch hq) (by simp) hp (fun f hf => by cases hf) (by simp) rfl (fun a ha => by cases ha) (by simp) ⟨_, hpk.snoc _, hwt⟩
      simpa using this
  | none =>
  simp only [hv2] at hr
  cases hv3 : fltV X.T X.G (pickE d.env (opSlots X.ops o)) o.op with
  | some am =>
    obtain ⟨ao, mk⟩ := am
    simp only [hv3] at hr
    cases hf : Tri.fits (X.n₀ + i) with
    | false => simp only [hf, reduceCtorEq] at hr
    | true =>
      simp only [hf] at hr
      cases hp : putE X.nt d.env o.dst (mk.at (X.n₀ + i)) with
      | none => simp only [hp, reduceCtorEq] at hr
      | some env' =>
        simp only [hp, Option.some.injEq, Dr.go.injEq] at hr; subst hr
        have := h.next (k := .flt ao mk (X.n₀ + i)) (fl1 := [(i, X.n₀ + i, ao)]) (as := []) (ss := []) (mp' := d.mp) (is := []) ho (fun _ => rfl) (fun f x h1 h2 => by rw [h2] at h1; cases h1) (fun q hq => nomatch hq) (by simp) hp (fun f hf' => by
            simp only [List.mem_singleton] at hf'; subst hf'
            exact ⟨rfl, rfl, hf, mk, rfl⟩) (by simp) rfl (fun a ha => by cases ha) (by simp) ⟨_, hpk.snoc _, hwt, hv3, rfl, by simp⟩
        simpa using this
  | none =>
  simp only [hv3] at hr
  cases hl : lastOk (X.A.getD i 0) d.acts.getLast? with
  | false => simp only [hl, reduceCtorEq] at hr
  | true =>
  simp only [hl] at hr
  cases hev : evOp X.T X.G X.orc (pickE d.env (opSlots X.ops o)) { s with h := withF X.A (X.A.getD i 0) d.acts s.h d.fl } o.op with
  | none => simp only [hev, reduceCtorEq] at hr
  | some rs =>
  cases rs with
  | pan v st =>
    simp only [hev] at hr
    split at hr <;> simp at hr
  | val v st =>
    simp only [hev] at hr
    cases hp : putE X.nt d.env o.dst v with
    | none => simp only [hp, reduceCtorEq] at hr
    | some env' =>
      simp only [hp, Option.some.injEq, Dr.go.injEq] at hr; subst hr
      have hq : d.sts[d.acts.length]? = some s := by
        rw [List.getLast?_eq_getElem?, h.sts, Nat.add_sub_cancel] at hs; exact hs
      have hk : Fact X { env := env', fl := [] ++ d.fl, ks := d.ks ++ [.act v], acts := d.acts ++ [i], sts := d.sts ++ [st], mp := d.mp, ins := d.ins ++ [] } i o (.act v) := by
        refine ⟨_, d.acts.length, s, st, [], d.fl, hpk.snoc _, hwt, ?_, get_snoc hq, ?_, fun q' e hq' he => ?_, rfl, (fun f hf => by cases hf), ?_⟩
        · show (d.acts ++ [i])[d.acts.length]? = some i
          simp
        · show (d.sts ++ [st])[d.acts.length + 1]? = some st
          rw [← h.sts]; simp
        · have he : (d.acts ++ [i])[q']? = some e := he
          rw [List.getElem?_append_left (by omega)] at he
          have hlast : d.acts.getLast? = some e := by rw [List.getLast?_eq_getElem?, hq', Nat.add_sub_cancel]; exact he
          rw [hlast] at hl
          exact hl
        · have : (d.acts ++ [i]).take d.acts.length = d.acts := by simp
          show evOp X.T X.G X.orc _ { s with h := withF X.A (X.A.getD i 0) ((d.acts ++ [i]).take d.acts.length) s.h d.fl } o.op = _
          rw [this]; exact hev
      have := h.next (k := .act v) (fl1 := []) (as := [i]) (ss := [st]) (mp' := d.mp) (is := []) ho (fun _ => rfl) (fun f x h1 h2 => by rw [h2] at h1; cases h1) (fun q hq => nomatch hq) (by simp) hp (fun f hf => by cases hf) (by simp) rfl (fun a ha => by simp only [List.mem_singleton] at ha; exact ⟨ha, v, rfl⟩) (by simp) hk
      simpa using this

theorem draw1_pan (h : DI X i d) (ho : X.ops[i]? = some o) {v : Value} {st : St} (hr : evDraw1 X.T X.G X.orc X.nt X.n₀ X.ops X.A i o d = some (.pan d' v st)) : d' = d ∧ PanF X d i v st := by
  have hpk := h.pick o
  unfold evDraw1 at hr
  cases hs : d.sts.getLast? with
  | none => simp only [hs, reduceCtorEq] at hr
  | some s =>
  simp only [hs] at hr
  cases hwt : wantE X.ops (pickE d.env (opSlots X.ops o)) o with
  | none => simp only [hwt, reduceCtorEq] at hr
  | some b =>
  cases b with
  | false =>
    simp only [hwt] at hr
    split at hr <;> simp at hr
  | true =>
  simp only [hwt] at hr
  cases hv : lookV X.T X.G X.orc.eq (pickE d.env (opSlots X.ops o)) .leaf o.op with
  | some v =>
    simp only [hv] at hr
    split at hr <;> simp at hr
  | none =>
  simp only [hv] at hr
  cases hv0 : draw2 X.T X.G X.nt X.n₀ (X.A.getD i 0) i o (pickE d.env (opSlots X.ops o)) d with
  | some d0 =>
    simp only [hv0, Option.some.injEq, reduceCtorEq] at hr
  | none =>
  simp only [hv0] at hr
  cases hv2 : lookV X.T X.G X.orc.eq (pickE d.env (opSlots X.ops o)) (withF X.A (X.A.getD i 0) d.acts s.h d.fl) o.op with
  | some v =>
    simp only [hv2] at hr
    split at hr <;> simp at hr
  | none =>
  simp only [hv2] at hr
  cases hv3 : fltV X.T X.G (pickE d.env (opSlots X.ops o)) o.op with
  | some am =>
    obtain ⟨ao, mk⟩ := am
    simp only [hv3] at hr
    split at hr <;> simp at hr
  | none =>
  simp only [hv3] at hr
  cases hl : lastOk (X.A.getD i 0) d.acts.getLast? with
  | false => simp only [hl, reduceCtorEq] at hr
  | true =>
  simp only [hl] at hr
  cases hev : evOp X.T X.G X.orc (pickE d.env (opSlots X.ops o)) { s with h := withF X.A (X.A.getD i 0) d.acts s.h d.fl } o.op with
  | none => simp only [hev, reduceCtorEq] at hr
  | some rs =>
  cases rs with
  | val v st =>
    simp only [hev] at hr
    split at hr <;> simp at hr
  | pan v' st' =>
    simp only [hev] at hr
    cases hall : (X.A.drop (i + 1)).all (has · i) with
    | false => simp only [hall, reduceCtorEq] at hr
    | true =>
      simp only [hall, Option.some.injEq, Dr.pan.injEq] at hr
      obtain ⟨rfl, rfl, rfl⟩ := hr
      refine ⟨rfl, o, _, s, ho, hpk, hwt, hs, fun e he => ?_, hev, hall⟩
      rw [he] at hl; exact hl

theorem drawL_ok : ∀ (l : List Oper) (i : Nat) (d : Ds) (r : Dr), DI X i d → X.ops.toList.drop i = l → evDrawL X.T X.G X.orc X.nt X.n₀ X.ops X.A i l d = some r →
    match r with
    | .go d' => DI X X.ops.size d'
    | .pan d' v st => ∃ N, DI X N d' ∧ PanF X d' N v st
  | [], i, d, r, h, hl, hr => by
    simp only [evDrawL, Option.some.injEq] at hr; subst hr
    have : X.ops.size ≤ i := by simpa using hl
    have : i = X.ops.size := by have := h.le; omega
    rw [← this]; exact h
  | o :: l, i, d, r, h, hl, hr => by
    have ho : X.ops[i]? = some o := by
      have : (X.ops.toList.drop i)[0]? = some o := by rw [hl]; rfl
      rw [List.getElem?_drop] at this
      simpa using this
    have hl' : X.ops.toList.drop (i + 1) = l := by rw [← List.drop_drop, hl]; rfl
    simp only [evDrawL] at hr
    split at hr
    · rename_i d' hd
      exact drawL_ok l (i + 1) d' r (draw1_go h ho hd) hl' hr
    · rename_i hne
      cases r with
      | go d' => exact absurd hr (hne d')
      | pan d' v st =>
        obtain ⟨rfl, hp⟩ := draw1_pan h ho hr
        exact ⟨i, h, hp⟩
end Go.EV
