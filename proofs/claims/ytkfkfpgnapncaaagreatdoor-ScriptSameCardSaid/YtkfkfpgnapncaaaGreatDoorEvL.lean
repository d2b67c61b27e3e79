import Derived.Test.YtkfkfpgnapncaaaGreatDoorEvK
set_option linter.unusedSimpArgs false
set_option linter.unusedVariables false
/-! The computed walk is right: regions that do not draw. -/
noncomputable section
namespace Go.EV
open Go Go.RowKit Go.SL
variable {P : Program} {T : TT} {G : Nat} {ρ ρ' : Ren} {h : Hp} {n n₀ nt : Nat} {L : Nat → Option Obj} {z w : World} {env : En} {ro : Option Nat} {ops : Array Oper} {Q : Exit → Act → World → Prop} {k : Nat} {K : Act → World → Prop} {a : Act} {orc : Orc} {rd : Bool} {cs cs' : Cs} {e : Ex}

theorem VRs.len : ∀ {l l' : List Value}, VRs ρ l l' → l.length = l'.length
  | [], [], _ => rfl
  | _ :: _, _ :: _, h => by simp [VRs.len h.2]
  | [], _ :: _, h => h.elim
  | _ :: _, [], h => h.elim
theorem VRs.get : ∀ {l l' : List Value}, VRs ρ l l' → ∀ (i : Nat) (x x' : Value), l[i]? = some x → l'[i]? = some x' → VR ρ x x'
  | [], [], _, i, x, x', h1, _ => by simp at h1
  | y :: l, y' :: l', h, i, x, x', h1, h2 => by
    cases i with
    | zero => simp at h1 h2; subst h1; subst h2; exact h.1
    | succ i => exact VRs.get h.2 i x x' (by simpa using h1) (by simpa using h2)
  | [], _ :: _, h, _, _, _, _, _ => h.elim
  | _ :: _, [], h, _, _, _, _, _ => h.elim
theorem VRs.to_ar {l l' : List Value} (h : VRs ρ l l') : AR ρ l.toArray l'.toArray := LR.mk h.len h.get
theorem VRs.mono (hl : Ren.le ρ ρ') : ∀ {l l' : List Value}, VRs ρ l l' → VRs ρ' l l'
  | [], [], _ => trivial
  | _ :: _, _ :: _, h => ⟨h.1.mono hl, VRs.mono hl h.2⟩
  | [], _ :: _, h => h.elim
  | _ :: _, [], h => h.elim

def DR (ρ : Ren) : List AD → List Deferred → Prop
  | [], [] => True
  | .coll D :: r, d :: r' => (∃ b C, ρ D = some (b, C) ∧ d = coll b) ∧ DR ρ r r'
  | .fn f cap args :: r, d :: r' => (∃ cap' args', d = dfn f cap' args' ∧ AR ρ cap cap' ∧ AR ρ args args') ∧ DR ρ r r'
  | _, _ => False
theorem DR.mono (hl : Ren.le ρ ρ') : ∀ {ds : List AD} {ds' : List Deferred}, DR ρ ds ds' → DR ρ' ds ds'
  | [], [], _ => trivial
  | .coll D :: r, d :: r', h => ⟨let ⟨b, C, h1, h2⟩ := h.1; ⟨b, C, hl _ _ h1, h2⟩, DR.mono hl h.2⟩
  | .fn f cap args :: r, d :: r', h => ⟨let ⟨c', a', h1, h2, h3⟩ := h.1; ⟨c', a', h1, h2.mono hl, h3.mono hl⟩, DR.mono hl h.2⟩
  | [], _ :: _, h => h.elim
  | .coll _ :: _, [], h => h.elim
  | .fn _ _ _ :: _, [], h => h.elim

structure FR (ρ : Ren) (nt : Nat) (cs : Cs) (a : Act) : Prop where
  sl : SR ρ nt cs.env a.tmps
  df : DR ρ cs.ds a.defers
theorem FR.mono (hl : Ren.le ρ ρ') (h : FR ρ nt cs a) : FR ρ' nt cs a := ⟨h.sl.mono hl, h.df.mono hl⟩

def exQ (ρ' : Ren) (Q : Exit → Act → World → Prop) (a : Act) (w : World) : Ex → Prop
  | .normal => Q .normal a w
  | .exit id => Q (.exit id) a w
  | .ret => Q .ret a w
  | .pan v => ∀ v', VR ρ' v v' → Q (.panic (pan1 v')) a w

/-- What is asked where it ends so. -/
def QK (T : TT) (G : Nat) (ρ : Ren) (n₀ : Nat) (L : Nat → Option Obj) (z : World) (nt : Nat) (Q : Exit → Act → World → Prop) (e : Ex) (cs : Cs) : Prop :=
  ∀ ρ' a' w', n₀ ≤ cs.st.n → Ext n₀ ρ ρ' → WR G T ρ' cs.st.h.get cs.st.n L z w' → FR ρ' nt cs a' → exQ ρ' Q a' w' e

theorem QK.ext {n₁ : Nat} {ρ₁ : Ren} (h : QK T G ρ n₀ L z nt Q e cs) (he : Ext n₀ ρ ρ₁) (hn : n₀ ≤ n₁) : QK T G ρ₁ n₁ L z nt Q e cs := fun ρ' a' w' h1 h2 h3 h4 =>
  h ρ' a' w' (by omega) (he.trans h2 hn) h3 h4

theorem putE_fr {dst : Option Tmp} {v v' : Value} {env env' : En} (hp : putE nt env dst v = some env') (hs : SR ρ nt env a.tmps) (hv : VR ρ v v') : SR ρ nt env' (a.put dst v').tmps := by
  unfold putE at hp
  split at hp
  · simp only [Option.some.injEq] at hp; subst hp; exact hs
  · split at hp
    · rename_i hc
      simp only [Bool.and_eq_true] at hc
      simp only [Option.some.injEq] at hp; subst hp
      exact hs.put hv (Nat.lt_of_succ_le (Nat.le_of_ble_eq_true hc.1)) hc.2
    · simp at hp
theorem put_df (a : Act) (d : Option Tmp) (v : Value) : (a.put d v).defers = a.defers := by cases d <;> rfl

/-- What an operation's step asks of what is behind it. -/
def OpK (T : TT) (G : Nat) (ρ : Ren) (n₀ : Nat) (L : Nat → Option Obj) (z : World) (nt : Nat) (Q : Exit → Act → World → Prop) (K : Act → World → Prop) : Ex → Cs → Prop
  | .normal, cs => ∀ ρ' a' w', n₀ ≤ cs.st.n → Ext n₀ ρ ρ' → WR G T ρ' cs.st.h.get cs.st.n L z w' → FR ρ' nt cs a' → K a' w'
  | .pan v, cs => QK T G ρ n₀ L z nt Q (.pan v) cs
  | _, _ => True

theorem ev1_ok (hT : TOK P T) (hZ : TZ T) (hO : OrcOK P T G orc) (hrd : rd = false → ro = none) {o : Oper} (hw : WR G T ρ cs.st.h.get cs.st.n L z w) (hf : FR ρ nt cs a) (ho : ops[k]? = some o)
    (hr : ev1 T G orc rd nt ops o cs = some (e, cs')) (h : OpK T G ρ cs.st.n L z nt Q K e cs') : opW ro P ops Q k K a w := by
  unfold ev1 at hr
  split at hr
  · simp at hr
  · rename_i hwt
    split at hr
    · rename_i env' hp
      simp only [Option.some.injEq, Prod.mk.injEq] at hr
      obtain ⟨rfl, rfl⟩ := hr
      exact wpOp_pass ho (want_rel hf.sl hwt) (h ρ _ w (Nat.le_refl _) (Ext.refl _ _) hw ⟨putE_fr hp hf.sl undef_vr, by rw [put_df]; exact hf.df⟩)
    · simp at hr
  · rename_i hwt
    have hwt' := want_rel hf.sl hwt
    split at hr
    · rename_i v st hev
      split at hr
      · rename_i env' hp
        simp only [Option.some.injEq, Prod.mk.injEq] at hr
        obtain ⟨rfl, rfl⟩ := hr
        refine evOp_ok hT hZ hO hw hf.sl ho hwt' hev (fun ρ' v' w' hn he hw' hv => ?_)
        have hle := hw.le he
        exact h ρ' _ w' hn he hw' ⟨putE_fr hp (hf.sl.mono hle) hv, by rw [put_df]; exact hf.df.mono hle⟩
      · simp at hr
    · rename_i v st hev
      simp only [Option.some.injEq, Prod.mk.injEq] at hr
      obtain ⟨rfl, rfl⟩ := hr
      refine evOp_ok hT hZ hO hw hf.sl ho hwt' hev (fun ρ' v' w' hn he hw' hv => ?_)
      have hle := hw.le he
      exact h ρ' a w' hn he hw' ⟨hf.sl.mono hle, hf.df.mono hle⟩ v' hv
    · split at hr
      · rename_i c hop
        split at hr
        · rename_i x hcal hd
          split at hr
          · rename_i f fs cap l hx hl
            simp only [Option.some.injEq, Prod.mk.injEq] at hr
            obtain ⟨rfl, rfl⟩ := hr
            obtain rfl := hrd rfl
            have hxr := ev_rel hw hf.sl hx
            have hlr := evL_rel hw hf.sl hl
            cases hxe : a.eval x <;> rw [hxe] at hxr <;> cases hxr
            rename_i fn fs' cs2 e1 e2 e3 e4 e5
            cases e1
            have e2' : (c.args.map a.eval) = (c.args.toList.map a.eval).toArray := by apply Array.ext'; simp
            have hre : (execOp a.eval o).run P w = .ok (.defer (dfn f cs2 (fs' ++ c.args.map a.eval))) w := by
              obtain ⟨dst, op, type, pos, after, guard⟩ := o
              simp only at hop
              subst hop
              simp only [execOp, resolve, hcal, hxe, Deferred.ofValue, Sem.run_bind, Sem.run_pure, Result.andThen]
              rfl
            unfold opW
            simp only [ho]
            unfold wantB at hwt'
            rw [if_pos hwt']
            refine ⟨fun _ _ => trivial, ?_⟩
            have hs : o.semAt (FW none).round a.eval = execOp a.eval o := by
              unfold Oper.semAt
              rfl
            rw [hs, hre]
            show K _ w
            rw [hd]
            refine h ρ _ w (Nat.le_refl _) (Ext.refl _ _) hw ⟨hf.sl, ⟨⟨cs2, fs' ++ c.args.map a.eval, rfl, ⟨e4, e5⟩, ?_⟩, hf.df⟩⟩
            refine AR.append ⟨e2, e3⟩ ?_
            rw [e2']
            exact VRs.to_ar hlr
          · simp at hr
        · simp at hr
      · simp at hr

theorem evSeq_ok (hT : TOK P T) (hZ : TZ T) (hO : OrcOK P T G orc) (hrd : rd = false → ro = none) : ∀ (l : List Oper) (k : Nat) (ρ : Ren) (cs : Cs) (a : Act) (w : World), ops.toList.drop k = l → WR G T ρ cs.st.h.get cs.st.n L z w → FR ρ nt cs a →
    evSeq T G orc rd nt ops l cs = some (e, cs') → QK T G ρ cs.st.n L z nt Q e cs' → seqN ro P ops Q k l.length a w
  | [], k, ρ, cs, a, w, _, hw, hf, hr, h => by
    simp only [evSeq, Option.some.injEq, Prod.mk.injEq] at hr
    obtain ⟨rfl, rfl⟩ := hr
    exact h ρ a w (Nat.le_refl _) (Ext.refl _ _) hw hf
  | o :: l, k, ρ, cs, a, w, hl, hw, hf, hr, h => by
    have ho : ops[k]? = some o := by
      have : (ops.toList.drop k)[0]? = some o := by rw [hl]; rfl
      rw [List.getElem?_drop] at this
      simpa using this
    have hl' : ops.toList.drop (k + 1) = l := by
      rw [← List.drop_drop, hl]; rfl
    show opW ro P ops Q k (seqN ro P ops Q (k + 1) l.length) a w
    simp only [evSeq] at hr
    split at hr
    · rename_i cs1 h1
      refine ev1_ok hT hZ hO hrd hw hf ho h1 (fun ρ' a' w' hn he hw' hf' => ?_)
      exact evSeq_ok hT hZ hO hrd l (k + 1) ρ' cs1 a' w' hl' hw' hf' hr (h.ext he hn)
    · rename_i hne
      refine ev1_ok hT hZ hO hrd hw hf ho hr ?_
      cases e with
      | normal => exact absurd hr (hne cs')
      | pan v => exact h
      | exit id => trivial
      | ret => trivial
end Go.EV
