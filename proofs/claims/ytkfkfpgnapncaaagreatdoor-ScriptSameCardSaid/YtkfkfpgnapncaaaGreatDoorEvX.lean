import Derived.Test.YtkfkfpgnapncaaaGreatDoorEvW
set_option linter.unusedSimpArgs false
set_option linter.unusedVariables false
/-! The computed walk is right: regions that draw, whole. -/
noncomputable section
namespace Go.EV
open Go Go.RowKit Go.SL
variable {X : Cx} {d : Ds} {N : Nat} {ρ0 ρ ρ' : Ren} {L : Nat → Option Obj} {z w w' : World} {ds : List AD} {m : Nat} {s : St} {Lst : Array Bool} {a : Act} {i : Nat} {o : Oper} {ro : Option Nat} {Q : Exit → Act → World → Prop}

theorem clr_get : ∀ {l : List Oper} {e : En} {s : Nat} {v : Value}, (clr l e).get s = some v → e.get s = some v ∧ ∀ p ∈ l, p.dst ≠ some s
  | [], e, s, v, h => ⟨h, fun p hp => by cases hp⟩
  | p0 :: r, e, s, v, h => by
    simp only [clr] at h
    split at h
    · rename_i t ht
      split at h
      · rename_i hf
        rw [Tri.get_set hf] at h
        by_cases e1 : s = t
        · rw [if_pos e1] at h; cases h
        · rw [if_neg e1] at h
          obtain ⟨h1, h2⟩ := clr_get h
          refine ⟨h1, fun p hp => ?_⟩
          rcases List.mem_cons.1 hp with rfl | hp
          · rw [ht]; exact fun e => e1 (Option.some.inj e).symm
          · exact h2 p hp
      · simp [Tri.get_leaf] at h
    · rename_i ht
      obtain ⟨h1, h2⟩ := clr_get h
      refine ⟨h1, fun p hp => ?_⟩
      rcases List.mem_cons.1 hp with rfl | hp
      · rw [ht]; exact fun e => by cases e
      · exact h2 p hp

/-- An operation that may come next. -/
theorem draw_step (hT : TOK X.P X.T) (hZ : TZ X.T) (hO : OrcOK X.P X.T X.G X.orc) (hC : Chk X) (hD : DI X N d) (hLk : looksOk X.T X.G X.orc.eq X.ops X.A d 0 X.ops.toList d.ks = true)
    (hend : N = X.ops.size ∨ ∃ v st, PanF X d N v st ∧ ∀ ρ' v' w' a, X.n₀ ≤ st.n → Ext X.n₀ ρ0 ρ' → WR X.G X.T ρ' st.h.get st.n L z w' → SR ρ' X.nt (clr X.ops.toList X.env0) a.tmps → DR ρ' ds a.defers → VR ρ' v v' → Q (.panic (pan1 v')) a w')
    (hI : Inv X d N ρ0 L z ds Lst a w) (hi : i ∈ Region.ready .any X.ops Lst) : opW ro X.P X.ops Q i (fun a' w' => Inv X d N ρ0 L z ds (Lst.setIfInBounds i true) a' w') a w := by
  obtain ⟨ρ, m, s, L2, hM, hI⟩ := hI
  obtain ⟨hun, o, ho, hp⟩ := mem_ready.1 hi
  have hunf : Lst.getD i false = false := getD_mono hun
  have his : i < X.ops.size := (Array.getElem?_eq_some_iff.1 ho).1
  by_cases hiN : i < N
  · have hk : d.ks[i]? = some (d.ks[i]'(by rw [hD.len]; exact hiN)) := by simp [hD.len, hiN]
    generalize d.ks[i]'(by rw [hD.len]; exact hiN) = k at hk
    have hF := hD.fact i o k ho hk
    cases k with
    | pure v =>
      obtain ⟨env, hE, h1 | h1⟩ := hF
      · obtain ⟨h1, rfl⟩ := h1
        have hs := hI.sr hC ho hp hE
        exact wpOp_pass ho (want_rel hs h1) ⟨ρ, m, s, L2, hM.keep hD hk (fun _ h => by cases h) (fun _ _ h => by cases h) (Ren.le.refl _) (fun _ _ _ h => h), hI.calm hC hD hi ho hiN hk (fun v h => by cases h) (fun _ _ _ h => by cases h) undef_vr⟩
      · obtain ⟨h1, h2⟩ := h1
        have hs := hI.sr hC ho hp hE
        have hleaf : WR X.G X.T ρ (Tri.leaf : Tri AO).get s.n L2 z w := hI.wr.sub fun j o h => by cases (show (none : Option AO) = some o from h)
        obtain ⟨v', h3, h4⟩ := lookV_ok hT hZ hO.eqs hleaf hs h2
        exact wpOp_val ho (want_rel hs h1) h3 ⟨ρ, m, s, L2, hM.keep hD hk (fun _ h => by cases h) (fun _ _ h => by cases h) (Ren.le.refl _) (fun _ _ _ h => h), hI.calm hC hD hi ho hiN hk (fun v h => by cases h) (fun _ _ _ h => by cases h) h4⟩
    | look v =>
      obtain ⟨env, hE, h1⟩ := hF
      have hs := hI.sr hC ho hp hE
      have hE2 : EnvG X d.ks i o (pickE d.env (opSlots X.ops o)) := fun s v hsv => by
        obtain ⟨g1, g2⟩ := pickE_get hsv
        refine ⟨g1, ?_⟩
        rcases hD.env s v g2 with ⟨l, p, k, q1, q2, q3, q4, q5⟩ | ⟨q1, q2⟩
        · exact .inl ⟨l, p, k, hC.lt (hC.need ho q2 q3 g1), q2, q3, q4, q5⟩
        · exact .inr ⟨fun l p hl => q1 l p (by omega), q2⟩
      have hs2 := hI.sr hC ho hp hE2
      have hwin := looksOk_spec hLk i o v (by simpa using ho) hk
      rw [Nat.zero_add] at hwin
      have hum : unm X.A (d.acts.take m) i = true := unm_of fun q' b hb hq => by
        cases hh : has (X.A.getD b 0) i with
        | false => rfl
        | true =>
          obtain ⟨hbN, _⟩ := hD.actI b (List.mem_of_getElem? hb)
          have hbs : b < X.ops.size := by have := hD.le; omega
          have := hC.done2 hI.shut (i := b) (o := X.ops[b]) (by simp [hbs]) ((hI.act q' b hb).2 hq) hh
          rw [hunf] at this; cases this
      have hdr : (d.acts.drop m).all (fun a => !has (X.A.getD i 0) a) = true := List.all_eq_true.2 fun b hb => by
        obtain ⟨q', hq'⟩ := List.getElem?_of_mem hb
        rw [List.getElem?_drop] at hq'
        cases hh : has (X.A.getD i 0) b with
        | false => rfl
        | true =>
          have := (hI.act _ b hq').1 (hC.done hI.shut ho hp hh)
          omega
      have hv := winOk_spec hwin m s hI.st (by rw [Nat.zero_add]; exact hum) (by rw [Nat.zero_add]; exact hdr)
      rw [Nat.zero_add] at hv
      obtain ⟨v', h3, h4⟩ := lookV_ok hT hZ hO.eqs (hI.seen hC hD ho hp) hs2 hv
      exact wpOp_val ho (want_rel hs h1) h3 ⟨ρ, m, s, L2, hM.keep hD hk (fun _ h => by cases h) (fun _ _ h => by cases h) (Ren.le.refl _) (fun _ _ _ h => h), hI.calm hC hD hi ho hiN hk (fun v h => by cases h) (fun _ _ _ h => by cases h) h4⟩
    | flt ao mk x =>
      obtain ⟨env, hE, h1, h2, h3, h4⟩ := hF
      have hs := hI.sr hC ho hp hE
      obtain ⟨hok, o', C, hor, hrun⟩ := fltV_ok hT hZ hI.wr hs h2
      have hxn : ρ x = none := hI.off _ h4 hunf
      exact wpOp_val ho (want_rel hs h1) (hrun rfl) ⟨_, m, s, L2, hM.keep hD hk (fun _ h => by cases h) (fun _ _ h => by cases h) (le_updR hxn) (fun f y hm hy => by
        obtain ⟨_, g2, _, g4⟩ := hD.mpI f y hm
        have : y ≠ x := fun e => by
          have hfi : f = i := by omega
          rw [hfi, hk] at g4
          cases g4
        unfold updR
        rw [if_neg this]; exact hy), hI.lay hC hD hi ho hiN hk h3 h4 hok hor⟩
    | mmap x =>
      obtain ⟨env, hE, h1, h2, h3, h4⟩ := hF
      have hs := hI.sr hC ho hp hE
      unfold MapI at hM
      rw [h4] at hM
      simp only [hunf] at hM
      obtain ⟨rfl, hxn⟩ := hM
      have hrun : (execOp a.eval o).run X.P w = .ok (.value (.map (some w.heap.size))) { w with heap := w.heap.push (.map #[] 0) } := by
        obtain ⟨dst, op, type, pos, after, guard⟩ := o
        unfold isMk at h2
        split at h2
        · rename_i t heq
          simp only at heq
          subst heq
          simp [execOp, Instr.makeMap]
        · cases h2
      have hxs : x < s.n := by have := hI.sn; omega
      have hxo : ∀ q ∈ (d.fl.filter fun q => unm X.A (d.acts.take m) q.1), q.2.1 ≠ x := fun q hq e => by
        have := hD.flI q (List.mem_filter.1 hq).1
        have hqi : q.1 = i := by omega
        obtain ⟨_, _, _, mk, hk'⟩ := this
        rw [hqi, hk] at hk'
        cases hk'
      have hh : withL (fun f => Lst.getD f false) s.h.get (d.fl.filter fun q => unm X.A (d.acts.take m) q.1) x = none := by
        cases hv : withL (fun f => Lst.getD f false) s.h.get (d.fl.filter fun q => unm X.A (d.acts.take m) q.1) x with
        | none => rfl
        | some u =>
          obtain ⟨b, C, o', g1, _⟩ := hI.wr.hp x u hv
          rw [hxn] at g1; cases g1
      obtain ⟨b, hb1, hb2, hb3⟩ := hI.wr.newL hxn hxs hh
      subst hb2
      have hsz : i < Lst.size := by rw [hI.sz]; exact his
      have hents : ents (Lst.setIfInBounds i true) d.ins = [] := by
        unfold ents
        rw [List.filter_eq_nil_iff.2 fun q hq hqL => ?_]
        · rfl
        · obtain ⟨g1, g2⟩ := hD.insI q hq
          have hqi : q.1 ≠ i := fun e => by rw [e, hk] at g2; cases g2
          rw [getD_set_ne false (fun e => hqi e.symm)] at hqL
          have hqs : q.1 < X.ops.size := by have := hD.le; omega
          obtain ⟨_, f, y, _, _, k3, _, _, _, k7⟩ := hD.fact q.1 X.ops[q.1] _ (by simp [hqs]) g2
          rw [h4] at k3
          obtain ⟨rfl, rfl⟩ := Prod.mk.inj (Option.some.inj k3)
          have := hC.done2 hI.shut (i := q.1) (o := X.ops[q.1]) (by simp [hqs]) hqL k7
          rw [hunf] at this; cases this
      refine wpOp_val ho (want_rel hs h1) hrun ⟨updR ρ x (w.heap.size, 0), m, s, _, ?_, hI.calmG hC hD hi ho hiN hk (fun v h => by cases h) (fun _ _ _ h => by cases h) (.map (b := w.heap.size) (C := 0) (by simp [updR])) (le_updR hxn) (hI.ext.trans (ext_updR (Nat.le_refl x)) (by omega)) (fun f hf => ?_) hb3⟩
      · unfold MapI
        rw [h4]
        simp only [getD_set_self hsz]
        exact ⟨_, 0, #[], [], 0, hb1, rfl, by simp [updR], by rw [hents]; trivial, .refl _⟩
      · have h5 := hD.flI f hf
        have : f.2.1 ≠ x := fun e => by
          have hfi : f.1 = i := by omega
          obtain ⟨_, _, _, mk, hk'⟩ := h5
          rw [hfi, hk] at hk'
          cases hk'
        unfold updR
        rw [if_neg this]
    | ins kv v =>
      obtain ⟨env, f, x, hE, h1, h2, h3, h4, h5, h6⟩ := hF
      have hs := hI.sr hC ho hp hE
      have hLf : Lst.getD f false = true := hC.done hI.shut ho hp h6
      unfold MapI at hM
      rw [h2] at hM
      simp only [hLf] at hM
      obtain ⟨b, C, es', es'', c, g1, rfl, g3, g4, g5⟩ := hM
      have hsz : i < Lst.size := by rw [hI.sz]; exact his
      have hbk : w.heap[b]? = some (.map es' c) := hI.wr.fr b _ (by simp [updL])
      have hne : ∀ p ∈ ents Lst d.ins, neK kv p.1 = true := fun p hp' => by
        obtain ⟨q, hq, rfl⟩ := List.mem_map.1 hp'
        obtain ⟨hq1, hq2⟩ := List.mem_filter.1 hq
        have hqi : i ≠ q.1 := fun e => by rw [← e, hunf] at hq2; cases hq2
        exact hD.insK _ h5 q hq1 hqi
      obtain ⟨v', hv', hrun⟩ := ins_run (c := c) hT hI.wr hs h3 g3 hbk g4 g5 hne rfl
      have hsn := g4.snoc (e := ⟨kv, v', c⟩) rfl hv'
      obtain ⟨es3, k1, k2⟩ := MR.perm (ents_ins h5 hD.insN hunf hsz) hsn
      refine wpOp_skip ho (want_rel hs h1) hrun ⟨ρ, m, s, updL L b (some (.map (es'.push ⟨kv, v', c⟩) (c + 1))), ?_, hI.calmG hC hD hi ho hiN hk (fun v h => by cases h) (fun _ _ _ h => by cases h) undef_vr (Ren.le.refl _) hI.ext (fun _ _ => rfl) (hI.wr.putL g1)⟩
      have hfi : f ≠ i := fun e => by rw [e, hunf] at hLf; cases hLf
      unfold MapI
      rw [h2]
      simp only
      rw [getD_set_ne false (fun e => hfi e.symm), hLf]
      exact ⟨b, C, _, es3, _, g1, rfl, g3, k1, k2.trans (by simpa using g5.append (List.Perm.refl _))⟩
    | act v =>
      obtain ⟨env, q, s0, st, fl1, fl2, hE, h1, h2, h3, h4, h5, h6, h7, h8⟩ := hF
      have hs := hI.sr hC ho hp hE
      have hqlt : q < d.acts.length := (List.getElem?_eq_some_iff.1 h2).1
      have hqm : q ≤ m := hI.stage hC ho hp (by omega) h5
      have hmq : m = q := by
        have : ¬ q < m := fun h => by have := (hI.act q i h2).2 h; rw [hunf] at this; cases this
        omega
      have hss : s0 = s := by
        have := hI.st
        rw [hmq, h3] at this
        exact Option.some.inj this
      subst hss
      obtain ⟨L', hL, hw1, hback⟩ := hI.acts hC hD ho hp h6 h7
      rw [hmq] at hw1
      refine evOp_ok (st := { s0 with h := withF X.A (X.A.getD i 0) (d.acts.take q) s0.h fl2 }) hT hZ hO hw1 hs ho (want_rel hs h1) h8 (fun ρ' v' w' hn he hw' hv => ?_)
      obtain ⟨k1, k2⟩ := hback ρ' st w' he hw'
      exact ⟨ρ', q + 1, st, L2, hM.keep hD hk (fun _ h => by cases h) (fun _ _ h => by cases h) (he.le hI.wr.dom) (fun f y hm hy => by
        obtain ⟨g1, g2, _⟩ := hD.mpI f y hm
        have h3 := hI.sn
        have h4 := hD.le
        rw [he y (by show y < s0.n; omega)]; exact hy), hI.acted hC hD hi ho hiN hk h2 hmq h4 hn he k1 k2 hv⟩
  · rcases hend with rfl | ⟨v, st, hP, hQ⟩
    · exact absurd his hiN
    · obtain ⟨oN, env, sl, hoN, hE, h1, h2, h3, h4, h5⟩ := hP
      by_cases hiN' : i = N
      · subst hiN'
        rw [ho] at hoN
        obtain rfl := Option.some.inj hoN
        have hs := hI.sr hC ho hp hE
        have hml : d.acts.length ≤ m := hI.stage hC ho hp (Nat.le_refl _) fun q' e hq' he => h3 e (by rw [List.getLast?_eq_getElem?, hq', Nat.add_sub_cancel]; exact he)
        have hm : m = d.acts.length := by have := hI.mle; omega
        have hss : sl = s := by
          have := hI.st
          rw [hm] at this
          have h2' := h2
          rw [List.getLast?_eq_getElem?, hD.sts, Nat.add_sub_cancel, this] at h2'
          exact (Option.some.inj h2').symm
        subst hss
        obtain ⟨L', hL, hw1, hback⟩ := hI.acts (fl1 := []) (fl2 := d.fl) hC hD ho hp rfl (fun f hf => by cases hf)
        have htk : d.acts.take m = d.acts := by rw [hm]; exact List.take_length
        rw [htk] at hw1
        refine evOp_ok (st := { sl with h := withF X.A (X.A.getD i 0) d.acts sl.h d.fl }) hT hZ hO hw1 hs ho (want_rel hs h1) h4 (fun ρ' v' w' hn he hw' hv => ?_)
        have hn : sl.n ≤ st.n := hn
        have he : Ext sl.n ρ ρ' := he
        have hle : Ren.le ρ ρ' := he.le hI.wr.dom
        have hsn := hI.sn
        refine hQ ρ' v' w' a (by omega) (hI.ext.trans he (by omega)) (hw'.subL fun b o hb => hL b o (hM.sub b o hb)) ⟨hI.tm, fun t u hu => ?_⟩ (hI.df.mono hle) hv
        obtain ⟨g1, g2⟩ := clr_get hu
        obtain ⟨u', k1, k2⟩ := hI.sl0 t u (fun l p hl => g2 p (by simpa using Array.mem_of_getElem? hl)) g1
        exact ⟨u', k1, k2.mono hle⟩
      · exfalso
        have hA : X.A.length = X.ops.size := by
          rw [hC.A]
          obtain ⟨_, h, _⟩ := ancs_spec X.ops.toList []
          simpa using h
        have hAi : X.A[i]? = some (X.A.getD i 0) := by
          have : i < X.A.length := by omega
          rw [List.getD_eq_getElem?_getD]
          simp [this]
        have hh : has (X.A.getD i 0) N = true := by
          refine List.all_eq_true.1 h5 _ (List.mem_of_getElem? (i := i - (N + 1)) ?_)
          rw [List.getElem?_drop, show N + 1 + (i - (N + 1)) = i by omega]
          exact hAi
        have := hI.lo N (hC.done hI.shut ho hp hh)
        omega

theorem WR.up {G : Nat} {T : TT} {h : Hp} {n n' : Nat} (hw : WR G T ρ h n L z w) (hn : n ≤ n') : WR G T ρ h n' L z w :=
  ⟨hw.os, hw.tape, hw.output, hw.size, fun i hi => hw.dom i (by omega), hw.hp, hw.inj, hw.fr, hw.gl⟩

theorem draw_ok {P : Program} {T : TT} {G : Nat} {orc : Orc} {nt : Nat} (hm : P.follows .mixedOrders = true) (hT : TOK P T) (hZ : TZ T) (hO : OrcOK P T G orc) : DrawOK P T G orc nt ro := by
  intro ops id cs cs' e ρ0 a w z L Q hw hf hr hq
  unfold evDraw at hr
  simp only at hr
  split at hr
  · simp at hr
  · rename_i hst
    simp only [Bool.and_eq_true] at hst
    obtain ⟨⟨⟨hst, hlow⟩, hedge⟩, hfit⟩ := hst
    let X : Cx := ⟨P, T, G, orc, nt, cs.st.n, ops, ancs ops.toList [], cs.env, { cs.st with n := cs.st.n + ops.size }⟩
    have hC : Chk X := ⟨rfl, hst, hlow, hedge⟩
    have h0 : DI X 0 { env := cs.env, fl := [], ks := [], acts := [], sts := [{ cs.st with n := cs.st.n + ops.size }], mp := none, ins := [] } :=
      ⟨Nat.zero_le _, rfl, (fun j o k _ hk => by simp at hk), fun s v hs => .inr ⟨fun l p hl => (by omega), hs⟩, (fun j o s hj => by omega), (fun f hf => nomatch hf), by simp, rfl, rfl, (fun a ha => nomatch ha), by simp, (fun f x h => nomatch h), (fun q hq => nomatch hq), by simp, (fun q hq => nomatch hq)⟩
    have hrep : ∀ j, (Array.replicate ops.size false).getD j false = false := fun j => by
      rw [Array.getD_eq_getD_getElem?, Array.getElem?_replicate]
      split <;> rfl
    have init : ∀ (d : Ds) (N : Nat), DI X N d → Inv X d N ρ0 L z cs.ds (Array.replicate ops.size false) a w.drew := fun d N hD => by
      refine ⟨ρ0, 0, X.s0, L, ?_, ⟨by simp [X], ?_, fun j hj => ?_, Ext.refl _ _, fun q b hb => ?_, Nat.zero_le _, hD.st0, ?_, Nat.le_refl _, fun f hf' _ => ?_, fun f hf' _ => ?_, hf.sl.1, fun j o s k hj => ?_, fun s v _ hs => hf.sl.2 s v hs, hf.df⟩⟩
      · unfold MapI
        split
        · rfl
        · rename_i f x hm
          rw [hrep]
          have := (hD.mpI f x hm).2.1
          exact ⟨rfl, hw.dom _ (by rw [this]; exact Nat.le_add_right _ _)⟩
      · intro i o ho hL
        exfalso
        rw [Array.getD_eq_getD_getElem?, Array.getElem?_replicate] at hL
        have : i < ops.size := (Array.getElem?_eq_some_iff.1 ho).1
        rw [if_pos this] at hL
        simp at hL
      · rw [hrep] at hj; cases hj
      · rw [hrep]
        constructor
        · intro h; cases h
        · intro h; omega
      · have hdrew : WR G T ρ0 cs.st.h.get (cs.st.n + ops.size) L z w.drew := hw.drew.up (Nat.le_add_right _ _)
        refine hdrew.conv fun j => ?_
        have : ∀ (l : Fls), withL (fun f => (Array.replicate ops.size false).getD f false) cs.st.h.get l = cs.st.h.get := fun l => by
          induction l with
          | nil => rfl
          | cons q r ih =>
            obtain ⟨i, x, ao⟩ := q
            have e : withL (fun f => (Array.replicate ops.size false).getD f false) cs.st.h.get ((i, x, ao) :: r) = (match (Array.replicate ops.size false).getD i false with | true => updH (withL (fun f => (Array.replicate ops.size false).getD f false) cs.st.h.get r) x (some ao) | false => withL (fun f => (Array.replicate ops.size false).getD f false) cs.st.h.get r) := rfl
            rw [e, hrep i]
            exact ih
        exact congrFun (this _) j
      · have := (hD.flI f hf').2.1
        exact hw.dom _ (by rw [this]; exact Nat.le_add_right _ _)
      · have := (hD.flI f hf').2.1
        cases hv : cs.st.h.get f.2.1 with
        | none => rfl
        | some u => have h1 := hw.hdom hv; rw [this] at h1; have : cs.st.n + f.1 < cs.st.n := h1; omega
      · rw [hrep] at hj; cases hj
    split at hr
    · rename_i d v st hL
      split at hr
      · rename_i hlk
        simp only [Option.some.injEq, Prod.mk.injEq] at hr
        obtain ⟨rfl, rfl⟩ := hr
        obtain ⟨N, hD, hP⟩ := drawL_ok (X := X) ops.toList 0 _ _ h0 rfl hL
        have hend : N = X.ops.size ∨ ∃ v st, PanF X d N v st ∧ ∀ ρ' v' w' a, X.n₀ ≤ st.n → Ext X.n₀ ρ0 ρ' → WR X.G X.T ρ' st.h.get st.n L z w' → SR ρ' X.nt (clr X.ops.toList X.env0) a.tmps → DR ρ' cs.ds a.defers → VR ρ' v v' → Q (.panic (pan1 v')) a w' :=
          .inr ⟨v, st, hP, fun ρ' v' w' a' h1 h2 h3 h4 h5 h6 => hq ρ' a' w' h1 h2 h3 ⟨h4, h5⟩ v' h6⟩
        refine draw_inv (ops := ops) (Inv X d N ρ0 L z cs.ds) hm (init d N hD) (fun L1 a1 w1 i hI hi => draw_step (X := X) hT hZ hO hC hD hlk hend hI hi) (fun L1 a1 w1 hI hrd => ?_)
        exfalso
        obtain ⟨ρ, m, s, L2, hM, hI⟩ := hI
        obtain ⟨oN, _, _, hoN, _⟩ := hP
        have hNs : N < ops.size := (Array.getElem?_eq_some_iff.1 hoN).1
        have := all_done (ops := ops) hI.sz hrd hedge N hNs
        have := hI.lo N this
        omega
      · simp at hr
    · rename_i d hL
      split at hr
      · rename_i s hlk hlast
        simp only [Option.some.injEq, Prod.mk.injEq] at hr
        obtain ⟨rfl, rfl⟩ := hr
        have hD : DI X ops.size d := drawL_ok (X := X) ops.toList 0 _ _ h0 rfl hL
        refine draw_inv (ops := ops) (Inv X d ops.size ρ0 L z cs.ds) hm (init d _ hD) (fun L1 a1 w1 i hI hi => draw_step (X := X) (Q := Q) hT hZ hO hC hD hlk (.inl rfl) hI hi) (fun L1 a1 w1 hI hrd => ?_)
        obtain ⟨ρ, m, s1, L2, hM, hI⟩ := hI
        have hall := all_done (ops := ops) hI.sz hrd hedge
        have hm : m = d.acts.length := by
          have h1 := hI.mle
          apply Classical.byContradiction
          intro hne
          have hlt : m < d.acts.length := by omega
          have hb : d.acts[m]? = some d.acts[m] := by simp [hlt]
          have h2 := (hD.actI _ (List.getElem_mem hlt)).1
          have := (hI.act m _ hb).1 (hall _ h2)
          omega
        have hs1 : s1 = s := by
          have h1 := hI.st
          rw [hm] at h1
          rw [List.getLast?_eq_getElem?, hD.sts, Nat.add_sub_cancel, h1] at hlast
          exact Option.some.inj hlast
        subst hs1
        refine hq ρ a1 w1 ?_ hI.ext ?_ ⟨⟨hI.tm, fun t u hu => ?_⟩, hI.df⟩
        · have := hI.sn
          have : cs.st.n + ops.size ≤ s1.n := this
          show cs.st.n ≤ s1.n
          omega
        · have hlay : WR G T ρ (layF d.fl s1.h (ancs ops.toList []) d.acts).get s1.n L2 z w1 := by
            refine hI.wr.conv fun j => ?_
            rw [layF_get fun q hq => (hD.flI q hq).2.2.1]
            have htk : d.acts.take m = d.acts := by rw [hm]; exact List.take_length
            rw [htk]
            refine congrFun (withL_cong fun q hq => ?_) j
            exact (hall _ (hD.flI q (List.mem_filter.1 hq).1).1).symm
          unfold MapI at hM
          split at hM
          · rename_i hmp
            subst hM
            simp only [hmp]
            exact hlay
          · rename_i f x hmp
            obtain ⟨f1, f2, f3, f4⟩ := hD.mpI f x hmp
            rw [hall f f1] at hM
            obtain ⟨b, C, es', es'', c, g1, rfl, g3, g4, g5⟩ := hM
            have hents : ents L1 d.ins = d.ins.map (·.2) := by
              unfold ents
              rw [List.filter_eq_self.2 fun q hq => hall _ (hD.insI q hq).1]
            rw [hents] at g4
            simp only [hmp]
            have hn : (layF d.fl s1.h (ancs ops.toList []) d.acts).get x = none := by
              cases hv : (layF d.fl s1.h (ancs ops.toList []) d.acts).get x with
              | none => rfl
              | some u =>
                obtain ⟨b', C', o', k1, _, k3, _⟩ := hlay.hp x u hv
                rw [g3] at k1
                obtain ⟨rfl, rfl⟩ := Prod.mk.inj (Option.some.inj k1)
                simp [updL] at k3
            exact (WR.back g1 hlay g3 (o := .map (d.ins.map (·.2)) false) ⟨es', es'', c, rfl, g4, g5, fun h => by cases h⟩ hn).conv (upd_set f3)
        · rcases hD.env t u hu with ⟨l, p, k, g1, g2, g3, g4, rfl⟩ | ⟨g1, g2⟩
          · exact hI.sl1 l p t k (hall l g1) g2 g3 g4
          · exact hI.sl0 t u (fun l p hl => g1 l p (Array.getElem?_eq_some_iff.1 hl).1 hl) g2
      · simp at hr
    · simp at hr
end Go.EV
