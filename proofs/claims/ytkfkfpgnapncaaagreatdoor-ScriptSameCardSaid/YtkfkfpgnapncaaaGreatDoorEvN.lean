import Derived.Test.YtkfkfpgnapncaaaGreatDoorEvL
set_option linter.unusedSimpArgs false
set_option linter.unusedVariables false
/-! The computed walk is right: code. -/
noncomputable section
namespace Go.EV
open Go Go.RowKit Go.SL
variable {P : Program} {T : TT} {G : Nat} {ρ ρ' : Ren} {h : Hp} {n n₀ nt : Nat} {L : Nat → Option Obj} {z w : World} {env : En} {ro : Option Nat} {ops : Array Oper} {Q : Exit → Act → World → Prop} {k lf : Nat} {K : Act → World → Prop} {a : Act} {orc : Orc} {rd : Bool} {cs cs' : Cs} {e : Ex}

/-- A region that draws goes as computed. -/
def DrawOK (P : Program) (T : TT) (G : Nat) (orc : Orc) (nt : Nat) (ro : Option Nat) : Prop :=
  ∀ {ops : Array Oper} {id : Nat} {cs cs' : Cs} {e : Ex} {ρ : Ren} {a : Act} {w z : World} {L : Nat → Option Obj} {Q : Exit → Act → World → Prop},
    WR G T ρ cs.st.h.get cs.st.n L z w → FR ρ nt cs a → evDraw T G orc nt ops cs = some (e, cs') → QK T G ρ cs.st.n L z nt Q e cs' → (Code.region id ops true).wpIn (FW ro) 0 P Q a w

theorem QK.conv {Q' : Exit → Act → World → Prop} (h : QK T G ρ n₀ L z nt Q e cs) (hq : ∀ ρ' a w, exQ ρ' Q a w e → exQ ρ' Q' a w e) : QK T G ρ n₀ L z nt Q' e cs := fun ρ' a' w' h1 h2 h3 h4 => hq ρ' a' w' (h ρ' a' w' h1 h2 h3 h4)

theorem loop_ok {x : Code} (hx : ∀ {ρ : Ren} {cs cs' : Cs} {e : Ex} {a : Act} {w : World} {Q : Exit → Act → World → Prop}, WR G T ρ cs.st.h.get cs.st.n L z w → FR ρ nt cs a → evC T G orc rd nt lf x cs = some (e, cs') → QK T G ρ cs.st.n L z nt Q e cs' → x.wpIn (FW ro) 0 P Q a w) :
    ∀ (m : Nat) {ρ : Ren} {cs cs' : Cs} {e : Ex} {a : Act} {w : World} {Q : Exit → Act → World → Prop}, WR G T ρ cs.st.h.get cs.st.n L z w → FR ρ nt cs a → loopN (evC T G orc rd nt lf x) m cs = some (e, cs') → e ≠ .normal → QK T G ρ cs.st.n L z nt Q e cs' → Code.roundsIn (FW ro) 0 P x Q m a w
  | 0, _, _, _, _, _, _, _, _, _, hr, _, _ => by simp [loopN] at hr
  | m + 1, ρ, cs, cs', e, a, w, Q, hw, hf, hr, hne, h => by
    rw [roundsIn_succ]
    simp only [loopN] at hr
    split at hr
    · rename_i cs1 h1
      refine hx hw hf h1 (fun ρ' a' w' hn he hw' hf' => ?_)
      exact loop_ok hx m hw' hf' hr hne (h.ext he hn)
    · rename_i hnn
      refine hx hw hf hr (h.conv fun ρ' a w hq => ?_)
      cases e with
      | normal => exact absurd rfl hne
      | exit id => exact hq
      | ret => exact hq
      | pan v => exact hq

theorem loopN_ne {f : Cs → Option (Ex × Cs)} : ∀ (m : Nat) {cs cs' : Cs} {e : Ex}, loopN f m cs = some (e, cs') → e ≠ .normal
  | 0, _, _, _, h => by simp [loopN] at h
  | m + 1, cs, cs', e, h => by
    simp only [loopN] at h
    split at h
    · exact loopN_ne m h
    · rename_i hnn
      rintro rfl
      exact hnn _ h

theorem fits_two {n : Nat} (h : Tri.fits (n + 1) = true) : Tri.fits n = true := by
  have : n + 1 < 1073741824 := Nat.lt_of_succ_le (Nat.le_of_ble_eq_true h)
  exact Nat.ble_eq_true_of_le (by omega)

theorem evC_ok (hT : TOK P T) (hZ : TZ T) (hO : OrcOK P T G orc) (hrd : rd = false → ro = none) (hD : DrawOK P T G orc nt ro) : ∀ (c : Code) {ρ : Ren} {cs cs' : Cs} {e : Ex} {a : Act} {w : World} {Q : Exit → Act → World → Prop}, WR G T ρ cs.st.h.get cs.st.n L z w → FR ρ nt cs a →
    evC T G orc rd nt lf c cs = some (e, cs') → QK T G ρ cs.st.n L z nt Q e cs' → c.wpIn (FW ro) 0 P Q a w := by
  intro c
  induction c with
  | skip =>
    intro ρ cs cs' e a w Q hw hf hr h
    simp only [evC, Option.some.injEq, Prod.mk.injEq] at hr
    obtain ⟨rfl, rfl⟩ := hr
    exact wpIn_skip (h ρ a w (Nat.le_refl _) (Ext.refl _ _) hw hf)
  | region id ops dr =>
    intro ρ cs cs' e a w Q hw hf hr h
    simp only [evC] at hr
    cases dr with
    | false =>
      refine region ops.toList.length (by simp) ?_
      exact evSeq_ok hT hZ hO hrd ops.toList 0 ρ cs a w rfl hw hf hr h
    | true => exact hD hw hf hr h
  | seq x y ihx ihy =>
    intro ρ cs cs' e a w Q hw hf hr h
    simp only [evC] at hr
    refine wpIn_seq ?_
    split at hr
    · rename_i cs1 h1
      refine ihx hw hf h1 (fun ρ' a' w' hn he hw' hf' => ?_)
      exact ihy hw' hf' hr (h.ext he hn)
    · rename_i hnn
      refine ihx hw hf hr (h.conv fun ρ' a w hq => ?_)
      cases e with
      | normal => exact absurd hr (hnn cs')
      | exit id => exact hq
      | ret => exact hq
      | pan v => exact hq
  | cond c x y ihx ihy =>
    intro ρ cs cs' e a w Q hw hf hr h
    simp only [evC] at hr
    split at hr
    · rename_i hc
      have := ev_rel hw hf.sl hc
      cases hce : a.eval c <;> rw [hce] at this <;> cases this
      exact wpIn_cond_true hce (ihx hw hf hr h)
    · rename_i hc
      have := ev_rel hw hf.sl hc
      cases hce : a.eval c <;> rw [hce] at this <;> cases this
      exact wpIn_cond_false hce (ihy hw hf hr h)
    · simp at hr
  | block id x ih =>
    intro ρ cs cs' e a w Q hw hf hr h
    simp only [evC] at hr
    refine wpIn_block ?_
    split at hr
    · rename_i j cs1 h1
      split at hr
      · rename_i hj
        simp only [Option.some.injEq, Prod.mk.injEq] at hr
        obtain ⟨rfl, rfl⟩ := hr
        have := Nat.eq_of_beq_eq_true hj
        subst this
        exact ih hw hf h1 (fun ρ' a' w' hn he hw' hf' => be (h ρ' a' w' hn he hw' hf'))
      · rename_i hj
        simp only [Option.some.injEq, Prod.mk.injEq] at hr
        obtain ⟨rfl, rfl⟩ := hr
        exact ih hw hf h1 (fun ρ' a' w' hn he hw' hf' => bne (by simpa using fun e => by subst e; simp at hj) (h ρ' a' w' hn he hw' hf'))
    · rename_i hnn
      refine ih hw hf hr (h.conv fun ρ' a w hq => ?_)
      cases e with
      | normal => exact hq
      | exit id => exact absurd hr (hnn _ _)
      | ret => exact hq
      | pan v => exact hq
  | loop x ih =>
    intro ρ cs cs' e a w Q hw hf hr h
    simp only [evC] at hr
    exact wpIn_loop_rounds lf (loop_ok ih lf hw hf hr (loopN_ne lf hr) h)
  | exit id =>
    intro ρ cs cs' e a w Q hw hf hr h
    simp only [evC, Option.some.injEq, Prod.mk.injEq] at hr
    obtain ⟨rfl, rfl⟩ := hr
    exact wpIn_exit (h ρ a w (Nat.le_refl _) (Ext.refl _ _) hw hf)
  | ret =>
    intro ρ cs cs' e a w Q hw hf hr h
    simp only [evC, Option.some.injEq, Prod.mk.injEq] at hr
    obtain ⟨rfl, rfl⟩ := hr
    exact wpIn_ret (h ρ a w (Nat.le_refl _) (Ext.refl _ _) hw hf)
  | scope x ih =>
    intro ρ cs cs' e a w Q hw hf hr h
    simp only [evC] at hr
    refine wpIn_scope (ih hw hf hr (h.conv fun ρ' a w hq => ?_))
    cases e <;> exact hq
  | label l =>
    intro ρ cs cs' e a w Q hw hf hr h
    simp only [evC, Option.some.injEq, Prod.mk.injEq] at hr
    obtain ⟨rfl, rfl⟩ := hr
    exact wpIn_label (h ρ a w (Nat.le_refl _) (Ext.refl _ _) hw hf)
  | goto l => intro ρ cs cs' e a w Q hw hf hr h; simp [evC] at hr
  | refuse s => intro ρ cs cs' e a w Q hw hf hr h; simp [evC] at hr
  | rangeFunc g ps as b iha ihb =>
    intro ρ cs cs' e a w Q hw hf hr h
    simp only [evC] at hr
    split at hr
    · rename_i f fs cap hg
      obtain rfl := hrd rfl
      split at hr
      · rename_i hfit
        have hfit0 := fits_two hfit
        have hgr := ev_rel hw hf.sl hg
        cases hge : a.eval g <;> rw [hge] at hgr <;> cases hgr
        rename_i fn' fs' cap' e1 e2 e3 e4 e5
        cases e1
        have hn0 : ρ cs.st.n = none := hw.dom _ (Nat.le_refl _)
        have hw1 := hw.new (i := cs.st.n) (n' := cs.st.n + 1) hn0 (by omega) (by omega) 0 (p := .defr true) (p' := .deferred (some [])) rfl
        have hle1 := le_updR (p := (w.heap.size, 0)) hn0
        have hn1 : updR ρ cs.st.n (w.heap.size, 0) (cs.st.n + 1) = none := hw1.dom _ (Nat.le_refl _)
        refine wpIn_rangeFunc fun fn _ => ?_
        have hw2 := hw1.new (i := cs.st.n + 1) (n' := cs.st.n + 2) hn1 (by omega) (by omega) 0 (p := .loop cs.env nt ps as b cs.st.n .ready none) (p' := recL fn a.tmps ps as b w.heap.size .ready none)
          ⟨fn, a.tmps, w.heap.size, 0, rfl, hf.sl.mono hle1, by simp [updR]⟩
        have hle2 := le_updR (p := ({ w with heap := w.heap.push (.deferred (some [])) }.heap.size, 0)) hn1
        have hconv : ∀ j, ((cs.st.h.set cs.st.n (some (.defr true))).set (cs.st.n + 1) (some (.loop cs.env nt ps as b cs.st.n .ready none))).get j = updH (updH cs.st.h.get cs.st.n (some (.defr true))) (cs.st.n + 1) (some (.loop cs.env nt ps as b cs.st.n .ready none)) j := fun j => by
          rw [upd_set hfit, updH, updH, upd_set hfit0]
        have hw2 := hw2.conv hconv
        have hext : Ext cs.st.n ρ (updR (updR ρ cs.st.n (w.heap.size, 0)) (cs.st.n + 1) ({ w with heap := w.heap.push (.deferred (some [])) }.heap.size, 0)) := (ext_updR (Nat.le_refl _)).trans (ext_updR (Nat.le_refl _)) (by omega)
        generalize hρ2 : updR (updR ρ cs.st.n (w.heap.size, 0)) (cs.st.n + 1) ({ w with heap := w.heap.push (.deferred (some [])) }.heap.size, 0) = ρ2 at *
        have hl2 : ρ2 (cs.st.n + 1) = some ({ w with heap := w.heap.push (.deferred (some [])) }.heap.size, 0) := by rw [← hρ2]; simp [updR]
        have hD2 : ρ2 cs.st.n = some (w.heap.size, 0) := by rw [← hρ2]; simp [updR]
        have hle : Ren.le ρ ρ2 := hext.le hw.dom
        generalize hW : ({ ({ w with heap := w.heap.push (.deferred (some [])) } : World) with heap := ({ w with heap := w.heap.push (.deferred (some [])) } : World).heap.push (recL fn a.tmps ps as b w.heap.size .ready none) } : World) = W at *
        generalize hl : ({ w with heap := w.heap.push (.deferred (some [])) } : World).heap.size = l at *
        split at hr
        · rename_i v st' hcall
          have hargs : VRs ρ2 (fs.toList ++ [.func (.yield (cs.st.n + 1)) #[] #[]] ++ cap.toList) (fs'.toList ++ [.func (.yield l) #[] #[]] ++ cap'.toList) :=
            VRs.append (VRs.append (VRs.ar (AR.mono hle ⟨e2, e3⟩)) ⟨.fn (.yield hl2) rfl (fun i x x' h => by simp at h) rfl (fun i x x' h => by simp at h), trivial⟩) (VRs.ar (AR.mono hle ⟨e4, e5⟩))
          obtain ⟨hc1, hc3⟩ := hO.call hcall hw2 hargs
          have harr : (fs'.toList ++ [Value.func (.yield l) #[] #[]] ++ cap'.toList).toArray = fs' ++ #[Value.func (.yield l) #[] #[]] ++ cap' := by
            apply Array.ext'; simp
          rw [harr] at hc3
          refine ⟨l, [coll w.heap.size], W, { target := .fn (.func f) cap', args := (fs' ++ #[.func (.yield l) #[] #[]]) }, W, f, (fs' ++ #[.func (.yield l) #[] #[]] ++ cap'), W, ?_, ?_, fun _ _ => trivial, ?_, (fun h => by cases h), ?_⟩
          rotate_left 3
          · refine callsIn_wide.2 (Calls.mono hc3 fun e₁ w₁ hR => ?_)
            obtain ⟨hc2, ρ3, he3, hw3, v', rfl, hv'⟩ := hR
            split at hr
            · rename_i e' nt' ps' as' b' D' s pd hl3
              have hl3' : ρ3 (cs.st.n + 1) = some (l, 0) := by rw [he3 _ (by show cs.st.n + 1 < cs.st.n + 2; omega)]; exact hl2
              obtain ⟨bb, CC, o', g1, g2, _, ff, tm, D1, C1, rfl, hsr, hDr⟩ := hw3.hp _ _ hl3
              rw [hl3'] at g1
              obtain ⟨rfl, rfl⟩ := Prod.mk.inj (Option.some.inj g1)
              have hput := hw3.put hl3 hl3' (p := .loop e' nt' ps' as' b' D' .exhausted pd) (p' := recL ff tm ps' as' b' D1 .exhausted pd) ⟨ff, tm, D1, C1, rfl, hsr, hDr⟩
              have hput := hput.conv (upd_set hfit)
              have hE3 : Ext cs.st.n ρ ρ3 := hext.trans he3 (by show cs.st.n ≤ cs.st.n + 2; omega)
              have hle3 : Ren.le ρ ρ3 := hE3.le hw.dom
              have hn3 : cs.st.n ≤ st'.n := by have : cs.st.n + 2 ≤ st'.n := hc2; omega
              have hD3 : ρ3 cs.st.n = some (w.heap.size, 0) := by rw [he3 _ (by show cs.st.n < cs.st.n + 2; omega)]; exact hD2
              have hsb : s ≠ .busy := by
                rintro rfl
                simp at hr
              have hst : (s == LoopState.busy) = false := by cases s <;> first | rfl | exact absurd rfl hsb
              refine ⟨pd, _, run_endLoop hst g2, ?_⟩
              have hfin : ∀ {e0 : Ex}, QK T G ρ cs.st.n L z nt Q e0 { env := cs.env, ds := .coll cs.st.n :: cs.ds, st := { st' with h := st'.h.set (cs.st.n + 1) (some (.loop e' nt' ps' as' b' D' .exhausted pd)) } } → exQ ρ3 Q { a with defers := [coll w.heap.size] ++ a.defers } { w₁ with heap := w₁.heap.setIfInBounds l (recL ff tm ps' as' b' D1 .exhausted pd) } e0 := fun hq =>
                hq ρ3 _ _ hn3 hE3 hput ⟨hf.sl.mono hle3, ⟨⟨_, _, hD3, rfl⟩, hf.df.mono hle3⟩⟩
              cases pd with
              | none =>
                have hr' : some (Ex.normal, ({ env := cs.env, ds := .coll cs.st.n :: cs.ds, st := { st' with h := st'.h.set (cs.st.n + 1) (some (.loop e' nt' ps' as' b' D' .exhausted none)) } } : Cs)) = some (e, cs') := by
                  cases s <;> first | exact hr | exact absurd rfl hsb
                simp only [Option.some.injEq, Prod.mk.injEq] at hr'
                obtain ⟨rfl, rfl⟩ := hr'
                exact hfin h
              | some c =>
                cases c with
                | ret =>
                  have hr' : some (Ex.ret, ({ env := cs.env, ds := .coll cs.st.n :: cs.ds, st := { st' with h := st'.h.set (cs.st.n + 1) (some (.loop e' nt' ps' as' b' D' .exhausted (some .ret))) } } : Cs)) = some (e, cs') := by
                    cases s <;> first | exact hr | exact absurd rfl hsb
                  simp only [Option.some.injEq, Prod.mk.injEq] at hr'
                  obtain ⟨rfl, rfl⟩ := hr'
                  exact wpIn_ret (hfin h)
                | exit id =>
                  have hr' : some (Ex.exit id, ({ env := cs.env, ds := .coll cs.st.n :: cs.ds, st := { st' with h := st'.h.set (cs.st.n + 1) (some (.loop e' nt' ps' as' b' D' .exhausted (some (.exit id)))) } } : Cs)) = some (e, cs') := by
                    cases s <;> first | exact hr | exact absurd rfl hsb
                  simp only [Option.some.injEq, Prod.mk.injEq] at hr'
                  obtain ⟨rfl, rfl⟩ := hr'
                  exact wpIn_exit (hfin h)
                | _ => cases s <;> simp at hr
            · simp at hr
          · subst hW; subst hl
            simp only [Instr.enterLoop, FW, Fence.wide, Sem.run_bind, Sem.run_pure, Result.andThen, newObj]
            rfl
          · have e2 : Array.map a.eval #[Operand.const (.func (.yield l) #[] #[])] = #[.func (.yield l) #[] #[]] := by simp [Act.eval]
            simp only [resolve, rangeCall, hge, Deferred.ofValue, Sem.run_bind, Sem.run_pure, Result.andThen, e2]
          · simp only [invoke]
            exact hc1 _ _
        · simp at hr
      · simp at hr
    · simp at hr
end Go.EV
