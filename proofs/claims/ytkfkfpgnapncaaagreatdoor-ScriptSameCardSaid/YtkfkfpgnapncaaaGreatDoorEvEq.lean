import Derived.Test.YtkfkfpgnapncaaaGreatDoorEvE
import Derived.Laws.StructEq
set_option linter.unusedSimpArgs false
set_option linter.unusedVariables false
/-! '==' of structs and arrays. -/
noncomputable section
namespace Go.EV
open Go Go.RowKit Go.SL
variable {P : Program} {T : TT} {ρ : Ren} {w : World}

/-- What the model asks of a type ahead of '==' of its values (an interface's number is written with a million more). -/
structure AggOK (P : Program) (E : List Nat) : Prop where
  agg : ∀ t, Nat.blt t 1000000 = true → E.contains t = true → P.eqGuardType P.depth t = false ∧ P.stoodInHeld t = false
  ifc : ∀ t, E.contains (t + 1000000) = true → ∃ ms, P.underlying t = some (.interface ms)

def eqFs (T : TT) (eq : TypeId → Value → Value → Option Bool) (xs ys : Array Value) : List Field → Option Bool
  | [] => some true
  | f :: fs => match decide (f.name = "_") with
    | true => eqFs T eq xs ys fs
    | false => match pPart T f.type xs f.offset, pPart T f.type ys f.offset with
      | some a, some b => match eq f.type a b with
        | some true => eqFs T eq xs ys fs
        | some false => some false
        | none => none
      | _, _ => none
def eqEs (T : TT) (eq : TypeId → Value → Value → Option Bool) (el : TypeId) (sz : Nat) (xs ys : Array Value) : Nat → Nat → Option Bool
  | _, 0 => some true
  | i, n + 1 => match pPart T el xs (i * sz), pPart T el ys (i * sz) with
    | some a, some b => match eq el a b with
      | some true => eqEs T eq el sz xs ys (i + 1) n
      | some false => some false
      | none => none
    | _, _ => none
def eqA (T : TT) (E : List Nat) : Nat → TypeId → Value → Value → Option Bool
  | 0, _, _, _ => none
  | d + 1, t, x, y => match T t with
    | none => none
    | some e => match e.d, x, y with
      | .int _, .int k a, .int k' b => match decide (k = k') with | true => some (a == b) | false => none
      | .bool, .bool a, .bool b => some (a == b)
      | .string, .string a, .string b => some (a == b)
      | .struct fs, .agg xs, .agg ys => match Nat.blt t 1000000 && E.contains t with
        | true => eqFs T (eqA T E d) xs ys fs.toList
        | false => none
      | .array n el, .agg xs, .agg ys => match T el with
        | some g => eqEs T (eqA T E d) el g.size xs ys 0 n
        | none => none
      | _, _, _ => none

theorem eqFs_rel {eq : TypeId → Value → Value → Option Bool} (heq : ∀ t x y x' y' b, eq t x y = some b → VR ρ x x' → VR ρ y y' → eq t x' y' = some b) {xs ys xs' ys' : Array Value} (hx : AR ρ xs xs') (hy : AR ρ ys ys') :
    ∀ {fs : List Field} {b : Bool}, eqFs T eq xs ys fs = some b → eqFs T eq xs' ys' fs = some b
  | [], b, h => h
  | f :: fs, b, h => by
    simp only [eqFs] at h ⊢
    split at h
    · exact eqFs_rel heq hx hy h
    · rename_i hd
      split at h
      · rename_i a c ha hc
        obtain ⟨a', ha', hra⟩ := pPart_rel ha hx
        obtain ⟨c', hc', hrc⟩ := pPart_rel hc hy
        simp only [ha', hc']
        split at h
        · rename_i he; rw [heq _ _ _ _ _ _ he hra hrc]; exact eqFs_rel heq hx hy h
        · rename_i he; rw [heq _ _ _ _ _ _ he hra hrc]; exact h
        · simp at h
      · simp at h
theorem eqEs_rel {eq : TypeId → Value → Value → Option Bool} (heq : ∀ t x y x' y' b, eq t x y = some b → VR ρ x x' → VR ρ y y' → eq t x' y' = some b) {xs ys xs' ys' : Array Value} (hx : AR ρ xs xs') (hy : AR ρ ys ys') {el : TypeId} {sz : Nat} :
    ∀ {n i : Nat} {b : Bool}, eqEs T eq el sz xs ys i n = some b → eqEs T eq el sz xs' ys' i n = some b
  | 0, _, b, h => h
  | n + 1, i, b, h => by
    simp only [eqEs] at h ⊢
    split at h
    · rename_i a c ha hc
      obtain ⟨a', ha', hra⟩ := pPart_rel ha hx
      obtain ⟨c', hc', hrc⟩ := pPart_rel hc hy
      simp only [ha', hc']
      split at h
      · rename_i he; rw [heq _ _ _ _ _ _ he hra hrc]; exact eqEs_rel heq hx hy h
      · rename_i he; rw [heq _ _ _ _ _ _ he hra hrc]; exact h
      · simp at h
    · simp at h
theorem eqA_rel {E : List Nat} : ∀ {d : Nat} {t : TypeId} {x y x' y' : Value} {b : Bool}, eqA T E d t x y = some b → VR ρ x x' → VR ρ y y' → eqA T E d t x' y' = some b
  | 0, _, _, _, _, _, _, h, _, _ => by simp [eqA] at h
  | d + 1, t, x, y, x', y', b, h, hx, hy => by
    have ih : ∀ t x y x' y' b, eqA T E d t x y = some b → VR ρ x x' → VR ρ y y' → eqA T E d t x' y' = some b := fun _ _ _ _ _ _ h h1 h2 => eqA_rel h h1 h2
    unfold eqA at h ⊢
    cases ht : T t with
    | none => simp [ht] at h
    | some e =>
      simp only [ht] at h ⊢
      split at h
      · rename_i hd; cases hx; cases hy; simp only [hd]; exact h
      · rename_i hd; cases hx; cases hy; simp only [hd]; exact h
      · rename_i hd; cases hx; cases hy; simp only [hd]; exact h
      · rename_i hd
        cases hx with
        | agg a1 a2 => cases hy with
          | agg b1 b2 =>
            simp only [hd]
            split at h
            · rename_i hE; exact eqFs_rel ih ⟨a1, a2⟩ ⟨b1, b2⟩ h
            · simp at h
      · rename_i hd
        cases hx with
        | agg a1 a2 => cases hy with
          | agg b1 b2 =>
            simp only [hd]
            split at h
            · rename_i hg; exact eqEs_rel ih ⟨a1, a2⟩ ⟨b1, b2⟩ h
            · simp at h
      · simp at h

theorem eqFs_run (hT : TOK P T) {d : Nat} {eq : TypeId → Value → Value → Option Bool} (heq : ∀ t x y b, eq t x y = some b → (Op.equalIn d t x y).run P w = .ok b w) {xs ys : Array Value} :
    ∀ {fs : List Field} {b : Bool}, eqFs T eq xs ys fs = some b → (Op.eqFields d xs ys fs).run P w = .ok b w
  | [], b, h => by simp only [eqFs, Option.some.injEq] at h; subst h; rfl
  | f :: fs, b, h => by
    simp only [eqFs] at h
    simp only [Op.eqFields]
    split at h
    · rename_i hd
      have hd := of_decide_eq_true hd
      rw [if_neg (by simp [hd])]
      exact eqFs_run hT heq h
    · rename_i hd
      have hd := of_decide_eq_false hd
      rw [if_pos hd]
      split at h
      · rename_i a c ha hc
        simp only [Sem.run_bind, run_part hT ha, run_part hT hc, Result.andThen]
        split at h
        · rename_i he
          simp only [heq _ _ _ _ he, Bool.not_true, Bool.false_eq_true, if_false]
          exact eqFs_run hT heq h
        · rename_i he
          simp only [Option.some.injEq] at h; subst h
          simp only [heq _ _ _ _ he, Bool.not_false, if_true, Sem.run_pure]
        · simp at h
      · simp at h

theorem eqEs_run (hT : TOK P T) {d : Nat} {eq : TypeId → Value → Value → Option Bool} (heq : ∀ t x y b, eq t x y = some b → (Op.equalIn d t x y).run P w = .ok b w) {xs ys : Array Value} {el : TypeId} {sz : Nat} :
    ∀ {n i : Nat} {b : Bool}, eqEs T eq el sz xs ys i n = some b →
      (do
        let r ← forIn (List.range' i n) ((none, ()) : Option Bool × PUnit) (fun j _ => do
          if !(← Op.equalIn d el (← part el xs (j * sz)) (← part el ys (j * sz))) then pure (ForInStep.done (some false, ())) else pure (ForInStep.yield (none, ())))
        match r.1 with
        | some b => pure b
        | none => pure true : Sem Bool).run P w = .ok b w
  | 0, i, b, h => by simp only [eqEs, Option.some.injEq] at h; subst h; rfl
  | n + 1, i, b, h => by
    simp only [eqEs] at h
    split at h
    · rename_i a c ha hc
      have ih := fun b h => eqEs_run hT heq (xs := xs) (ys := ys) (el := el) (sz := sz) (n := n) (i := i + 1) (b := b) h
      simp only [List.range'_succ, List.forIn_cons, Sem.run_bind, run_part hT ha, run_part hT hc, Result.andThen]
      split at h
      · rename_i he
        simp only [heq _ _ _ _ he, Bool.not_true, Bool.false_eq_true, if_false, Sem.run_pure]
        have := ih b h
        simpa only [Sem.run_bind, Result.andThen] using this
      · rename_i he
        simp only [Option.some.injEq] at h; subst h
        simp only [heq _ _ _ _ he, Bool.not_false, if_true, Sem.run_pure]
      · simp at h
    · simp at h

theorem eqA_run (hT : TOK P T) {E : List Nat} (hE : AggOK P E) : ∀ {d : Nat} (j : Nat) {t : TypeId} {x y : Value} {b : Bool}, eqA T E d t x y = some b → (Op.equalIn (d + j) t x y).run P w = .ok b w
  | 0, _, _, _, _, _, h => by simp [eqA] at h
  | d + 1, j, t, x, y, b, h => by
    have ih : ∀ t x y b, eqA T E d t x y = some b → (Op.equalIn (d + j) t x y).run P w = .ok b w := fun _ _ _ _ h => eqA_run hT hE j h
    unfold eqA at h
    rw [show d + 1 + j = (d + j) + 1 by omega]
    cases ht : T t with
    | none => simp [ht] at h
    | some e =>
      simp only [ht] at h
      have hu := hT.und ht
      split at h
      · rename_i hd
        split at h
        · rename_i hk
          have hk := of_decide_eq_true hk
          subst hk
          simp only [Option.some.injEq] at h; subst h
          rw [hd] at hu
          exact run_equalIn_int w _ t _ _ _ _ hu
        · simp at h
      · rename_i hd
        simp only [Option.some.injEq] at h; subst h
        rw [hd] at hu
        exact run_equalIn_bool' w _ t _ _ hu
      · rename_i hd
        simp only [Option.some.injEq] at h; subst h
        rw [hd] at hu
        simp [Op.equalIn, run_underlying hu]
      · rename_i fs xs ys hd
        split at h
        · rename_i hc
          rw [Bool.and_eq_true] at hc
          obtain ⟨_, hst⟩ := hE.agg t hc.1 hc.2
          rw [hd] at hu
          have hf : P.fieldsOf t = fs := by simp [Program.fieldsOf, hu]
          rw [run_equalIn_struct w _ t xs ys (by rw [hf]; exact hu) hst, hf]
          exact eqFs_run hT ih h
        · simp at h
      · rename_i n el xs ys hd
        rw [hd] at hu
        split at h
        · rename_i g hg
          have := eqEs_run hT ih h
          rw [← this]
          simp only [Op.equalIn, Sem.run_bind, run_underlying hu, Result.andThen_ok, run_size hT hg]
          rw [Std.Legacy.Range.forIn_eq_forIn_range', show List.range' [:n].start [:n].size [:n].step = List.range' 0 n by simp [Std.Legacy.Range.size]]
          congr 1
          funext a w'
          obtain ⟨_ | _, _⟩ := a <;> rfl
        · simp at h
      · simp at h
end Go.EV
