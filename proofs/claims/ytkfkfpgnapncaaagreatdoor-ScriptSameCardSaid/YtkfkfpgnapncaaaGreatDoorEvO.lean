import Derived.Test.YtkfkfpgnapncaaaGreatDoorEvN
set_option linter.unusedSimpArgs false
set_option linter.unusedVariables false
/-! The computed walk is right: functions. -/
noncomputable section
namespace Go.EV
open Go Go.RowKit Go.SL
variable {P : Program} {T : TT} {G : Nat} {ρ ρ' : Ren} {h : Hp} {n n₀ nt : Nat} {L : Nat → Option Obj} {z w : World} {env : En} {ro : Option Nat} {ops : Array Oper} {Q : Exit → Act → World → Prop} {k lf : Nat} {K : Act → World → Prop} {a : Act} {orc : Orc} {rd : Bool} {cs cs' : Cs} {e : Ex}

theorem envA_get : ∀ (l : List Value) (i : Nat) (e : En) (s : Nat) (v : Value), (∀ j, j < l.length → Tri.fits (i + j) = true) → (envA i l e).get s = some v → (i ≤ s ∧ l[s - i]? = some v) ∨ e.get s = some v
  | [], i, e, s, v, _, h => .inr h
  | u :: r, i, e, s, v, hf, h => by
    have hf0 : Tri.fits i = true := hf 0 (by simp)
    rcases envA_get r (i + 1) _ s v (fun j hj => by have := hf (j + 1) (by simp; omega); rwa [show i + 1 + j = i + (j + 1) by omega]) h with ⟨h1, h2⟩ | h2
    · refine .inl ⟨by omega, ?_⟩
      rw [show s - i = (s - (i + 1)) + 1 by omega, List.getElem?_cons_succ]; exact h2
    · rw [Tri.get_set hf0] at h2
      by_cases e1 : s = i
      · subst e1
        rw [if_pos rfl] at h2
        simp only [Option.some.injEq] at h2; subst h2
        exact .inl ⟨Nat.le_refl _, by simp⟩
      · rw [if_neg e1] at h2; exact .inr h2

theorem fits_lt {n : Nat} (h : Tri.fits n = true) {j : Nat} (hj : j ≤ n) : Tri.fits j = true := by
  have : n < 1073741824 := Nat.lt_of_succ_le (Nat.le_of_ble_eq_true h)
  exact Nat.ble_eq_true_of_le (by omega)

theorem envA_sr {args args' : List Value} {nt : Nat} (hv : VRs ρ args args') (hl : args.length ≤ nt) (hf : Tri.fits nt = true) : SR ρ nt (envA 0 args .leaf) (args'.toArray ++ Array.replicate (nt - args'.toArray.size) undef) := by
  have hlen := hv.len
  refine ⟨by simp; omega, fun s v hs => ?_⟩
  rcases envA_get args 0 .leaf s v (fun j hj => fits_lt hf (by omega)) hs with ⟨_, h2⟩ | h2
  · rw [Nat.sub_zero] at h2
    have hlt : s < args.length := (List.getElem?_eq_some_iff.1 h2).1
    have h3 : args'[s]? = some args'[s] := by simp [hlen ▸ hlt]
    refine ⟨args'[s], ?_, hv.get s _ _ h2 h3⟩
    rw [Array.getElem?_append_left (by simp; omega)]
    simp [hlen ▸ hlt]
  · simp [Tri.get_leaf] at h2

theorem res_rel (hT : TOK P T) {H : Tri AO} (hw : WR G T ρ H.get n L z w) (hs : SR ρ nt env a.tmps) : ∀ {rs : List ResultVar} {l : List Value}, resV T env H rs = some l → ∃ l', RVs P a w rs l' ∧ VRs ρ l l'
  | [], l, h => by simp only [resV, Option.some.injEq] at h; subst h; exact ⟨[], trivial, trivial⟩
  | r :: rs, l, h => by
    simp only [resV] at h
    split at h
    · rename_i v l0 hv hl0
      simp only [Option.some.injEq] at h; subst h
      obtain ⟨l1, h1, h2⟩ := res_rel hT hw hs hl0
      have : ∃ v', RV P a w r v' ∧ VR ρ v v' := by
        split at hv
        · rename_i t
          obtain ⟨v', g1, g2⟩ := hs.2 t v hv
          refine ⟨v', ?_, g2⟩
          show a.tmps.getD t undef = v'
          rw [Array.getD_eq_getD_getElem?, g1]; rfl
        · rename_i p ty
          split at hv
          · rename_i i off hp
            split at hv
            · rename_i cs et op hi
              obtain ⟨u, g1, g2⟩ := hs.2 p _ hp
              cases g2 with
              | ptr hb =>
                obtain ⟨v', k1, k2⟩ := load_rel hT hw hi hb hv
                refine ⟨v', ⟨_, ?_, k1⟩, k2⟩
                rw [Array.getD_eq_getD_getElem?, g1]; rfl
            · simp at hv
          · simp at hv
      obtain ⟨v', k1, k2⟩ := this
      exact ⟨v' :: l1, ⟨k1, h1⟩, ⟨k2, h2⟩⟩
    · simp at h

theorem mkRes_rel : ∀ {l l' : List Value}, VRs ρ l l' → VR ρ (mkRes l) (mkRes l')
  | [], [], _ => .tup rfl fun i x x' h => by simp at h
  | [x], [x'], h => h.1
  | x :: y :: r, x' :: y' :: r', h => by
    have := VRs.to_ar h
    exact .tup this.1 this.2
  | [], _ :: _, h => h.elim
  | _ :: _, [], h => h.elim
  | [_], _ :: _ :: _, h => h.2.elim
  | _ :: _ :: _, [_], h => h.2.elim

/-- What a call of a function is asked to end in. -/
def CallR (T : TT) (G : Nat) (ρ : Ren) (n₀ : Nat) (st' : St) (L : Nat → Option Obj) (z : World) (r : CR) (e : Ending) (w' : World) : Prop := n₀ ≤ st'.n ∧ ∃ ρ', Ext n₀ ρ ρ' ∧ WR G T ρ' st'.h.get st'.n L z w' ∧ CRR ρ' r e

theorem fin_ok (hT : TOK P T) {fn : Func} {st st' : St} {r : CR} {n₀ : Nat} {ρ₀ : Ren} (hw : WR G T ρ st.h.get st.n L z w) (hs : SR ρ nt env a.tmps) (hn : n₀ ≤ st.n) (he : Ext n₀ ρ₀ ρ) (hr : finV T env fn st = some (r, st')) :
    st' = st ∧ LeavesIn (FW none) 0 P fn a.tmps (CallR T G ρ₀ n₀ st' L z r) [] .returning w := by
  unfold finV at hr
  split at hr
  · rename_i l hl
    simp only [Option.some.injEq, Prod.mk.injEq] at hr
    obtain ⟨rfl, rfl⟩ := hr
    obtain ⟨l', h1, h2⟩ := res_rel hT hw hs hl
    refine ⟨rfl, mkRes l', results_run (rs := fn.results.toList) (by simp) h1, hn, ρ, he, hw, _, rfl, mkRes_rel h2⟩
  · simp at hr

theorem recover_eq' (c : Frame) (cs : List Frame) {α : Type} (g : Value → List Frame → α) : (match recoverD (c :: cs) with | some (v, cs') => g v cs' | none => g Value.nilIface (c :: cs)) = g (recMode c.mode).1 ({ c with mode := (recMode c.mode).2 } :: cs) := recover_eq c cs g
theorem retD' {f : FuncId} {fn : Func} {c₀ : Code} {id d : Nat} {o : Oper} {args : Array Value} {u : FrameMode} {R : World → Prop} (hf : P.funcs[f]? = some fn)
    (hb : fn.body = some (.seq (.region id #[o] false) c₀)) (hr : ∀ ρ (w : World), (execOp ρ o).run P w = .ok .recover w) (hg : o.guard = none) (hd : o.dst = some d)
    (h : c₀.wpIn (FW none) 0 P (bodyPost P fn (fun e w' => ∃ v, e = .returned v ∧ R w')) (({ tmps := args ++ Array.replicate (fn.ntmps - args.size) undef, defers := [] } : Act).put (some d) (recMode u).1) w) : RetD P f args u (recMode u).2 w R := by
  refine callsDIn_of_wpSIn (F := FW none) (n := 0) hf hb trivial ?_
  intro c cs hm
  refine wpSIn_seq (wpSIn_region ?_)
  show (∀ f', o.about P w _ = some f' → (FW none).fn f') ∧ _
  refine ⟨fun _ _ => trivial, ?_⟩
  have hw : Region.wanted o (yielded #[o] (args ++ Array.replicate (fn.ntmps - args.size) undef)) = true := by
    unfold Region.wanted
    rw [hg]
  show (if Region.wanted o (yielded #[o] (args ++ Array.replicate (fn.ntmps - args.size) undef)) = true then _ else _)
  rw [if_pos hw]
  show (match (execOp _ o).run P w with | .ok .recover w' => _ | .ok (.value v) w' => _ | .ok .skip w' => _ | .halt (.panic v) w' => _ | _ => False)
  rw [hr]
  show (match recoverD (c :: cs) with | some (v, cs') => wpOpsSIn (FW none) 0 P #[o] _ [] (Act.put _ o.dst v) cs' w | none => wpOpsSIn (FW none) 0 P #[o] _ [] (Act.put _ o.dst .nilIface) (c :: cs) w)
  rw [recover_eq' c cs (fun v cs' => wpOpsSIn (FW none) 0 P #[o] (Exit.thenS (c₀.wpSIn (FW none) 0 P (bodyPostS P fn c cs fun e u'' w' => u'' = (recMode u).2 ∧ (∃ v, e = .returned v) ∧ R w')) (bodyPostS P fn c cs fun e u'' w' => u'' = (recMode u).2 ∧ (∃ v, e = .returned v) ∧ R w')) [] (Act.put _ o.dst v) cs' w)]
  rw [hm, hd]
  refine wpSIn_of_wpIn rfl (wpIn_mono h ?_)
  rintro e a' w' hq
  cases e with
  | normal => obtain ⟨hdf, v, hrr, v', he, hR⟩ := hq; exact ⟨hdf, _, rfl, v, hrr, rfl, ⟨v, rfl⟩, hR⟩
  | ret => obtain ⟨hdf, v, hrr, v', he, hR⟩ := hq; exact ⟨hdf, _, rfl, v, hrr, rfl, ⟨v, rfl⟩, hR⟩
  | panic ch => obtain ⟨hdf, v, he, hR⟩ := hq; cases he
  | exit id => exact hq.elim
  | goto l => exact hq.elim
  | outgrown => obtain ⟨v, he, hR⟩ := hq; cases he

variable {F : Nat → Option Func}
/-- Each function whose number is known is one that can be called. -/
def FOK (P : Program) (F : Nat → Option Func) : Prop := ∀ f fn, F f = some fn → P.funcs[f]? = some fn ∧ (fn.body.isSome = true → ∀ (as : Array Value) (w : World), (callFunc f as).run P w = .ok (.enter f as) w)

theorem dfr_ok (hT : TOK P T) (hZ : TZ T) (hO : OrcOK P T G orc) (hF : FOK P F) (hD : ∀ nt ro, DrawOK P T G orc nt ro) {f : FuncId} {args args' : List Value} {rv : Value} {u : FrameMode} {st st' : St}
    (hr : dfrV T G F orc lf f args rv st = some st') (hw : WR G T ρ st.h.get st.n L z w) (hv : VRs ρ args args') (hrv : VR ρ rv (recMode u).1) :
    (∀ (as : Array Value) (w : World), (callFunc f as).run P w = .ok (.enter f as) w) ∧ RetD P f args'.toArray u (recMode u).2 w (fun w' => st.n ≤ st'.n ∧ ∃ ρ', Ext st.n ρ ρ' ∧ WR G T ρ' st'.h.get st'.n L z w') := by
  unfold dfrV at hr
  split at hr
  · rename_i fn hfn
    obtain ⟨hf, hcf⟩ := hF f fn hfn
    split at hr
    · rename_i id ops c₀ hb hres
      split at hr
      · rename_i o hops
        have hops' : ops = #[o] := by rw [← Array.toArray_toList (xs := ops), hops]
        subst hops'
        split at hr
        · rename_i c d hop hg hd
          split at hr
          · rename_i hcal
            split at hr
            · rename_i hc
              simp only [Bool.and_eq_true] at hc
              obtain ⟨⟨c1, c2⟩, c3⟩ := hc
              have c1 := Nat.le_of_ble_eq_true c1
              have c3 : d < fn.ntmps := Nat.lt_of_succ_le (Nat.le_of_ble_eq_true c3)
              have hrec : ∀ ρ (w : World), (execOp ρ o).run P w = .ok .recover w := fun ρ w => by
                obtain ⟨dst, op, type, pos, after, guard⟩ := o
                simp only at hop
                subst hop
                simp only [execOp, resolve, hcal, Sem.run_bind, Sem.run_pure, Result.andThen, invoke, builtin]
              have hsr := (envA_sr hv c1 c2).put (d := d) hrv c3 (fits_lt c2 (Nat.le_of_lt c3))
              have hresult : ∀ (a' : Act) (w' : World), (results fn a'.tmps).run P w' = .ok (mkRes []) w' := fun a' w' => results_run (a := a') (rs := []) (by rw [← Array.toArray_toList (xs := fn.results), hres]) trivial
              have main : ∀ {e : Ex} {cs : Cs}, evC T G orc false fn.ntmps lf c₀ { env := (envA 0 args .leaf).set d (some rv), ds := [], st := st } = some (e, cs) → (e = .normal ∨ e = .ret) → cs.ds = [] → cs.st = st' →
                  RetD P f args'.toArray u (recMode u).2 w (fun w' => st.n ≤ st'.n ∧ ∃ ρ', Ext st.n ρ ρ' ∧ WR G T ρ' st'.h.get st'.n L z w') := fun {e cs} hev hee hds hst => by
                refine retD' hf hb hrec hg hd (evC_ok hT hZ hO (fun _ => rfl) (hD _ _) c₀ (cs := { env := (envA 0 args .leaf).set d (some rv), ds := [], st := st }) hw ⟨hsr, trivial⟩ hev (fun ρ' a' w' hn he hw' hf' => ?_))
                subst hst
                have hdf := hf'.df
                rw [hds] at hdf
                have hdf0 : a'.defers = [] := by
                  cases hq : a'.defers with
                  | nil => rfl
                  | cons x r => rw [hq] at hdf; exact hdf.elim
                rcases hee with rfl | rfl
                · exact ⟨hdf0, _, hresult a' w', _, rfl, hn, ρ', he, hw'⟩
                · exact ⟨hdf0, _, hresult a' w', _, rfl, hn, ρ', he, hw'⟩
              refine ⟨hcf (by rw [hb]; rfl), ?_⟩
              split at hr
              · rename_i cs1 hev
                split at hr
                · rename_i hds
                  simp only [Option.some.injEq] at hr
                  exact main hev (.inl rfl) hds hr
                · simp at hr
              · rename_i cs1 hev
                split at hr
                · rename_i hds
                  simp only [Option.some.injEq] at hr
                  exact main hev (.inr rfl) hds hr
                · simp at hr
              · simp at hr
            · simp at hr
          · simp at hr
        · simp at hr
      · simp at hr
    · simp at hr
  · simp at hr

theorem nil_df {a : Act} (h : DR ρ [] a.defers) : a.defers = [] := by
  cases hq : a.defers with
  | nil => rfl
  | cons x r => rw [hq] at h; exact h.elim
theorem one_df {a : Act} {x : AD} (h : DR ρ [x] a.defers) : ∃ d, a.defers = [d] ∧ DR ρ [x] [d] := by
  cases hq : a.defers with
  | nil => rw [hq] at h; cases x <;> exact h.elim
  | cons d r =>
    rw [hq] at h
    cases x with
    | coll D =>
      cases r with
      | nil => exact ⟨d, rfl, h⟩
      | cons y r => exact h.2.elim
    | fn f c as =>
      cases r with
      | nil => exact ⟨d, rfl, h⟩
      | cons y r => exact h.2.elim

theorem call_ok (hT : TOK P T) (hZ : TZ T) (hO : OrcOK P T G orc) (hF : FOK P F) (hD : ∀ nt ro, DrawOK P T G orc nt ro) {f : FuncId} {args args' : List Value} {st st' : St} {r : CR}
    (hr : callV T G F orc lf f args st = some (r, st')) (hw : WR G T ρ st.h.get st.n L z w) (hv : VRs ρ args args') :
    (∀ (as : Array Value) (w : World), (callFunc f as).run P w = .ok (.enter f as) w) ∧ Calls P f args'.toArray w (CallR T G ρ st.n st' L z r) := by
  unfold callV at hr
  split at hr
  · rename_i fn hfn
    obtain ⟨hf, hcf⟩ := hF f fn hfn
    split at hr
    · rename_i c hb
      split at hr
      · rename_i hc
        simp only [Bool.and_eq_true] at hc
        obtain ⟨c1, c2⟩ := hc
        have c1 := Nat.le_of_ble_eq_true c1
        refine ⟨hcf (by rw [hb]; rfl), ?_⟩
        refine (callsIn_wide (n := 0)).1 (callsIn_of_wp_marks (F := FW none) hf hb trivial ?_)
        have hsr := envA_sr hv c1 c2
        -- a frame that leaves as told
        have leave : ∀ {cs : Cs} {ρ' : Ren} {a' : Act} {w' : World}, st.n ≤ cs.st.n → Ext st.n ρ ρ' → WR G T ρ' cs.st.h.get cs.st.n L z w' → FR ρ' fn.ntmps cs a' →
            (match cs.ds with
              | [] => finV T cs.env fn cs.st
              | [.coll D] => match cs.st.h.get D, Tri.fits D with
                | some (.defr true), true => finV T cs.env fn { cs.st with h := cs.st.h.set D (some (.defr false)) }
                | _, _ => none
              | [.fn g cap as] => match dfrV T G F orc lf g (as.toList ++ cap.toList) .nilIface cs.st with
                | some st' => finV T cs.env fn st'
                | none => none
              | _ => none) = some (r, st') → LeavesInM (FW none) 0 P fn a'.tmps (CallR T G ρ st.n st' L z r) a'.defers .returning w' := by
          intro cs ρ' a' w' hn he hw' hf' hl
          have hdf := hf'.df
          split at hl
          · rename_i hds
            rw [hds] at hdf
            rw [nil_df hdf]
            exact (fin_ok hT hw' hf'.sl hn he hl).2
          · rename_i D hds
            rw [hds] at hdf
            obtain ⟨d, h1, ⟨b, C, hb1, rfl⟩, _⟩ := one_df hdf
            rw [h1]
            split at hl
            · rename_i hD1 hfit
              obtain ⟨b', C', o', g1, g2, _, rfl⟩ := hw'.hp D _ hD1
              rw [hb1] at g1
              obtain ⟨rfl, rfl⟩ := Prod.mk.inj (Option.some.inj g1)
              have hput := hw'.put hD1 hb1 (p := .defr false) (p' := .deferred none) rfl
              have htake : (Instr.takeDeferred b).run P w' = .ok [] { w' with heap := w'.heap.setIfInBounds b (.deferred none) } := by
                have g2' : w'.heap[b]? = some (.deferred (some [])) := g2
                simp [Instr.takeDeferred, getObj, setObj, Sem.run_bind, Sem.run, g2', Result.andThen]
              have hDn : D < cs.st.n := hw'.hdom hD1
              refine ⟨by simp, .inl ⟨b, _, rfl, htake, ?_⟩⟩
              exact (fin_ok hT (st := { cs.st with h := cs.st.h.set D (some (.defr false)) }) (hput.conv (upd_set hfit)) hf'.sl hn he hl).2
            · simp at hl
          · rename_i g cap as hds
            rw [hds] at hdf
            obtain ⟨d, h1, ⟨cap', as', rfl, hcap, has⟩, _⟩ := one_df hdf
            rw [h1]
            split at hl
            · rename_i st2 hdv
              have hargs : VRs ρ' (as.toList ++ cap.toList) (as'.toList ++ cap'.toList) := VRs.append (VRs.ar has) (VRs.ar hcap)
              obtain ⟨k1, k2⟩ := dfr_ok (u := .returning) hT hZ hO hF hD hdv hw' hargs .nilI
              have harr : (as'.toList ++ cap'.toList).toArray = as' ++ cap' := by apply Array.ext'; simp
              rw [harr] at k2
              refine ⟨by simp, .inr ⟨(fun h => by cases h), .func g, cap', g, as' ++ cap', rfl, k1 _ _, fun _ _ => trivial, ?_⟩⟩
              refine CallsDIn.mono k2 fun e u' w2 ⟨hu', ⟨v, he'⟩, hn2, ρ2, he2, hw2⟩ => ?_
              subst hu'; subst he'
              exact (fin_ok hT hw2 (hf'.sl.mono (hw'.le he2)) (Nat.le_trans hn hn2) (he.trans he2 hn) hl).2
            · simp at hl
          · simp at hl
        split at hr
        · rename_i cs hev
          exact evC_ok hT hZ hO (fun _ => rfl) (hD _ _) c (cs := { env := envA 0 args .leaf, ds := [], st := st }) hw ⟨hsr, trivial⟩ hev (fun ρ' a' w' hn he hw' hf' => leave hn he hw' hf' hr)
        · rename_i cs hev
          exact evC_ok hT hZ hO (fun _ => rfl) (hD _ _) c (cs := { env := envA 0 args .leaf, ds := [], st := st }) hw ⟨hsr, trivial⟩ hev (fun ρ' a' w' hn he hw' hf' => leave hn he hw' hf' hr)
        · rename_i v cs hev
          refine evC_ok hT hZ hO (fun _ => rfl) (hD _ _) c (cs := { env := envA 0 args .leaf, ds := [], st := st }) hw ⟨hsr, trivial⟩ hev (fun ρ' a' w' hn he hw' hf' => ?_)
          intro v' hvr
          show LeavesInM (FW none) 0 P fn a'.tmps (CallR T G ρ st.n st' L z r) a'.defers (.panicking (pan1 v')) w'
          have hdf := hf'.df
          split at hr
          · rename_i hds
            rw [hds] at hdf
            rw [nil_df hdf]
            simp only [Option.some.injEq, Prod.mk.injEq] at hr
            obtain ⟨rfl, rfl⟩ := hr
            exact ⟨hn, ρ', he, hw', v', rfl, hvr⟩
          · rename_i g cap as hds
            rw [hds] at hdf
            obtain ⟨d, h1, ⟨cap', as', rfl, hcap, has⟩, _⟩ := one_df hdf
            rw [h1]
            split at hr
            · rename_i st2 hdv
              have hargs : VRs ρ' (as.toList ++ cap.toList) (as'.toList ++ cap'.toList) := VRs.append (VRs.ar has) (VRs.ar hcap)
              obtain ⟨k1, k2⟩ := dfr_ok (u := .panicking (pan1 v')) hT hZ hO hF hD hdv hw' hargs hvr
              have harr : (as'.toList ++ cap'.toList).toArray = as' ++ cap' := by apply Array.ext'; simp
              rw [harr] at k2
              refine ⟨by simp, .inr ⟨(fun h => by cases h), .func g, cap', g, as' ++ cap', rfl, k1 _ _, fun _ _ => trivial, ?_⟩⟩
              refine CallsDIn.mono k2 fun e u' w2 ⟨hu', ⟨v, he'⟩, hn2, ρ2, he2, hw2⟩ => ?_
              subst hu'; subst he'
              exact (fin_ok hT hw2 (hf'.sl.mono (hw'.le he2)) (Nat.le_trans hn hn2) (he.trans he2 hn) hr).2
            · simp at hr
          · simp at hr
        · simp at hr
      · simp at hr
    · simp at hr
  · simp at hr

theorem zipA_sr : ∀ {ps : List Nat} {vs vs' : List Value} {env env' : En} {tm : Array Value}, zipA ps vs env = some env' → VRs ρ vs vs' → ps.all (fun p => Nat.blt p nt) = true → Tri.fits nt = true → SR ρ nt env tm →
    ps.length = vs'.length ∧ SR ρ nt env' ((ps.zip vs').foldl (fun tmps (x : Nat × Value) => tmps.setIfInBounds x.1 x.2) tm)
  | [], [], [], env, env', tm, h, _, _, _, hs => by simp only [zipA, Option.some.injEq] at h; subst h; exact ⟨rfl, hs⟩
  | p :: ps, v :: vs, v' :: vs', env, env', tm, h, hv, hl, hf, hs => by
    simp only [List.all_cons, Bool.and_eq_true] at hl
    have hp : p < nt := Nat.lt_of_succ_le (Nat.le_of_ble_eq_true hl.1)
    obtain ⟨h1, h2⟩ := zipA_sr (ps := ps) (env := env.set p (some v)) h hv.2 hl.2 hf (hs.put hv.1 hp (fits_lt hf (Nat.le_of_lt hp)))
    exact ⟨by simp [h1], h2⟩
  | [], _ :: _, _, _, _, _, h, _, _, _, _ => by simp [zipA] at h
  | _ :: _, [], _, _, _, _, h, _, _, _, _ => by simp [zipA] at h
  | [], [], _ :: _, _, _, _, _, hv, _, _, _ => hv.elim
  | _ :: _, _ :: _, [], _, _, _, _, hv, _, _, _ => hv.elim

/-- A loop's record is written. -/
theorem setL_ok {l b C : Nat} {s : LoopState} {pd : Option Code} {st st' : St} (hr : setL l s pd st = some st') (hw : WR G T ρ st.h.get st.n L z w) (hb : ρ l = some (b, C)) :
    ∃ f tm ps as bd D s0 pd0, w.heap[b]? = some (recL f tm ps as bd D s0 pd0) ∧ (isRdy l st = true → s0 = .ready ∧ pd0 = none) ∧ st'.n = st.n ∧
      WR G T ρ st'.h.get st'.n L z { w with heap := w.heap.setIfInBounds b (recL f tm ps as bd D s pd) } := by
  unfold setL at hr
  split at hr
  · rename_i e nt ps as bd D s0 pd0 hl hf
    simp only [Option.some.injEq] at hr; subst hr
    obtain ⟨b', C', o', g1, g2, _, f, tm, D', C2, rfl, hs, hD⟩ := hw.hp l _ hl
    rw [hb] at g1
    obtain ⟨rfl, rfl⟩ := Prod.mk.inj (Option.some.inj g1)
    refine ⟨f, tm, ps, as, bd, D', s0, pd0, g2, fun hq => ?_, rfl, (hw.put hl hb (p := .loop e nt ps as bd D s pd) ⟨f, tm, D', C2, rfl, hs, hD⟩).conv (upd_set hf)⟩
    unfold isRdy at hq
    rw [hl] at hq
    cases s0 <;> cases pd0 <;> simp_all
  · simp at hr

theorem yld_ok (hT : TOK P T) (hZ : TZ T) (hO : OrcOK P T G orc) (hD : ∀ nt ro, DrawOK P T G orc nt ro) {l b C : Nat} {args args' : List Value} {st st' : St} {v : Value}
    (hr : yldV T G orc lf l args st = some (v, st')) (hw : WR G T ρ st.h.get st.n L z w) (hv : VRs ρ args args') (hb : ρ l = some (b, C)) :
    Yld P b args'.toArray w (fun v' w' => st.n ≤ st'.n ∧ ∃ ρ', Ext st.n ρ ρ' ∧ WR G T ρ' st'.h.get st'.n L z w' ∧ VR ρ' v v') := by
  unfold yldV at hr
  split at hr
  · rename_i env nt ps as bd D s pd hl
    obtain ⟨b', C', o', g1, g2, _, f, tm, D', C2, rfl, hs, hDr⟩ := hw.hp l _ hl
    rw [hb] at g1
    obtain ⟨rfl, rfl⟩ := Prod.mk.inj (Option.some.inj g1)
    split at hr
    · rename_i env' hz hc
      simp only [Bool.and_eq_true] at hc
      obtain ⟨hlen, hsr⟩ := zipA_sr hz hv hc.1 hc.2 hs
      refine ⟨f, ((ps.toList.zip args').foldl (fun tmps (x : Nat × Value) => tmps.setIfInBounds x.1 x.2) tm), as, bd, ?_, ?_⟩
      · have hlen' : ps.size = args'.length := by simpa using hlen
        simp only [Instr.yield, Sem.run_bind, run_getLoop g2, Result.andThen, List.size_toArray, hlen', ne_eq, not_true, if_false]
        have hz1 : (ps.zip args'.toArray).foldl (fun tmps (x : Nat × Value) => tmps.setIfInBounds x.1 x.2) tm = (ps.toList.zip args').foldl (fun tmps (x : Nat × Value) => tmps.setIfInBounds x.1 x.2) tm := by
          rw [← Array.foldl_toList]; simp
        simp only [Sem.run_pure, hz1]
      · refine roundIn_of_wpIn (F := FW none) (n := 0) trivial ?_
        split at hr
        · rename_i cs hev
          refine evC_ok (ro := some b) (rd := true) hT hZ hO (fun h => by cases h) (hD _ _) as (cs := { env := env', ds := [], st := st }) hw ⟨hsr, trivial⟩ hev (fun ρ1 a1 w1 hn1 he1 hw1 hf1 => ?_)
          have hle1 := hw.le he1
          have hb1 : ρ1 l = some (b, C) := hle1 _ _ hb
          split at hr
          · rename_i st1 hrdy hset
            obtain ⟨f1, tm1, ps1, as1, bd1, D1, s1, pd1, q1, q2, q3, q4⟩ := setL_ok hset hw1 hb1
            obtain ⟨rfl, rfl⟩ := q2 hrdy
            refine ⟨_, run_beginRound q1, ?_⟩
            have fin : ∀ {e : Ex} {cs' : Cs} {v0 : Bool} {s' : LoopState} {pd' : Option Code}, evC T G orc true nt lf bd { cs with st := st1 } = some (e, cs') → yldE v0 (setL l s' pd' cs'.st) = some (v, st') →
                (∀ (a : Act) (w2 : World) (f2 : FuncId) (tm2 : Array Value) (ps2 : Array Tmp) (as2 bd2 : Code) (D2 : Nat) (s2 : LoopState) (pd2 : Option Code), w2.heap[b]? = some (recL f2 tm2 ps2 as2 bd2 D2 s2 pd2) →
                  (∀ R : Ending → World → Prop, R (.returned (.bool v0)) { w2 with heap := w2.heap.setIfInBounds b (recL f2 tm2 ps2 as2 bd2 D2 s' pd') } → ∀ ρ2, exQ ρ2 (roundPost P b R) a w2 e)) →
                bd.wpIn (FW (some b)) 0 P (roundPost P b fun e w' => ∃ v', e = .returned v' ∧ st.n ≤ st'.n ∧ ∃ ρ', Ext st.n ρ ρ' ∧ WR G T ρ' st'.h.get st'.n L z w' ∧ VR ρ' v v') a1 { w1 with heap := w1.heap.setIfInBounds b (recL f1 tm1 ps1 as1 bd1 D1 .busy none) } := by
              intro e cs' v0 s' pd' hev2 hy hq
              refine evC_ok (ro := some b) (rd := true) hT hZ hO (fun h => by cases h) (hD _ _) bd (cs := { cs with st := st1 }) q4 ⟨hf1.sl, hf1.df⟩ hev2 (fun ρ2 a2 w2 hn2 he2 hw2 hf2 => ?_)
              have hle2 := q4.le he2
              have hb2 : ρ2 l = some (b, C) := hle2 _ _ hb1
              unfold yldE at hy
              split at hy
              · rename_i st2 hset2
                simp only [Option.some.injEq, Prod.mk.injEq] at hy
                obtain ⟨rfl, rfl⟩ := hy
                obtain ⟨f2, tm2, ps2, as2, bd2, D2, s2, pd2, k1, k2, k3, k4⟩ := setL_ok hset2 hw2 hb2
                refine hq a2 w2 f2 tm2 ps2 as2 bd2 D2 s2 pd2 k1 _ ⟨_, rfl, ?_, ρ2, ?_, k4, .bool _⟩ ρ2
                · have : st1.n ≤ cs'.st.n := hn2
                  have : st.n ≤ cs.st.n := hn1
                  omega
                · have h1 : st.n ≤ st1.n := by have : st.n ≤ cs.st.n := hn1; omega
                  exact he1.trans he2 h1
              · simp at hy
            split at hr
            · rename_i cs' hev2
              exact fin hev2 hr (fun a w2 f2 tm2 ps2 as2 bd2 D2 s2 pd2 hk R hR ρ2 => ⟨_, _, run_endRound none hk, hR⟩)
            · rename_i cs' hev2
              exact fin hev2 hr (fun a w2 f2 tm2 ps2 as2 bd2 D2 s2 pd2 hk R hR ρ2 => ⟨_, _, run_endRound (some .ret) hk, hR⟩)
            · rename_i id cs' hev2
              exact fin hev2 hr (fun a w2 f2 tm2 ps2 as2 bd2 D2 s2 pd2 hk R hR ρ2 => ⟨_, _, run_endRound (some (.exit id)) hk, hR⟩)
            · simp at hr
          · simp at hr
        · simp at hr
    · simp at hr
  · simp at hr

/-- What stands in a table of calls is right. -/
def TabOK (P : Program) (T : TT) (G : Nat) (tb : FuncId → List Value → St → Option (CR × St)) : Prop :=
  ∀ {f : FuncId} {args args' : List Value} {st st' : St} {r : CR} {ρ : Ren} {L : Nat → Option Obj} {z w : World}, tb f args st = some (r, st') → WR G T ρ st.h.get st.n L z w → VRs ρ args args' →
    (∀ (as : Array Value) (w : World), (callFunc f as).run P w = .ok (.enter f as) w) ∧ Calls P f args'.toArray w (CallR T G ρ st.n st' L z r)

theorem mkOrc_ok (hT : TOK P T) (hZ : TZ T) {E : List Nat} (hE : AggOK P E) (hF : FOK P F) {tb : FuncId → List Value → St → Option (CR × St)} (htb : TabOK P T G tb)
    (hD : ∀ orc nt ro, OrcOK P T G orc → DrawOK P T G orc nt ro) : ∀ (m : Nat), OrcOK P T G (mkOrc T G E F tb lf m)
  | 0 => ⟨hE, fun h => by simp [mkOrc] at h, fun h => by simp [mkOrc] at h⟩
  | m + 1 => by
    have hO := mkOrc_ok hT hZ hE hF htb hD m
    refine ⟨hE, ?_, ?_⟩
    · intro f args st st' r h ρ L z w args' hw hv
      simp only [mkOrc] at h
      split at h
      · rename_i r0 hr0
        simp only [Option.some.injEq] at h; subst h
        exact htb hr0 hw hv
      · exact call_ok hT hZ hO hF (fun nt ro => hD _ nt ro hO) h hw hv
    · intro l args st st' v h ρ L z w args' b C hw hv hb
      simp only [mkOrc] at h
      exact yld_ok hT hZ hO (fun nt ro => hD _ nt ro hO) h hw hv hb
end Go.EV
