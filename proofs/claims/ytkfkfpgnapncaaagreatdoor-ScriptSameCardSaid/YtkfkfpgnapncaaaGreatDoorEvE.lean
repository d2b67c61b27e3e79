import Derived.Test.YtkfkfpgnapncaaaGreatDoorEvD
set_option linter.unusedSimpArgs false
set_option linter.unusedVariables false
/-! What only looks: slices, assertions, all together. -/
noncomputable section
namespace Go.EV
open Go Go.RowKit Go.SL
variable {P : Program} {T : TT} {G : Nat} {ρ ρ' : Ren} {h : Hp} {n nt : Nat} {L : Nat → Option Obj} {z w : World} {env : En} {ro : Option Nat} {ops : Array Oper} {Q : Exit → Act → World → Prop} {k : Nat} {K : Act → World → Prop} {a : Act}

def ixN : Value → Option Nat
  | .int _ (.ofNat m) => some m
  | _ => none
/-- A bound: what is written out, or what holds otherwise. -/
def bnd (o : Option Value) (d : Nat) : Option Nat :=
  match o with
  | none => some d
  | some v => ixN v

theorem ixN_spec {v : Value} {m : Nat} (h : ixN v = some m) : ∃ kk, v = .int kk (m : Int) := by
  unfold ixN at h
  split at h
  · simp only [Option.some.injEq] at h; subst h; exact ⟨_, rfl⟩
  · simp at h

theorem run_bnd {v : Value} (n y : Nat) (code : BoundsCode) (hb : ixN v = some n) (hn : n ≤ y) (w : World) : (Instr.sliceBound v y code).run P w = .ok n w := by
  obtain ⟨kk, rfl⟩ := ixN_spec hb
  have h1 : (0 : Int) ≤ (n : Int) ∧ (n : Int) ≤ (y : Int) := ⟨Int.natCast_nonneg n, Int.ofNat_le.2 hn⟩
  simp only [Instr.sliceBound, asIntOf, Sem.run_bind, Sem.run_pure, Result.andThen, h1, and_self, if_true, Int.toNat_natCast]

theorem run_bnds {lo hi mx : Option Value} {isS : Bool} {n c : Nat} {l h m : Nat} (hl : bnd lo 0 = some l) (hh : bnd hi n = some h) (hm : bnd mx c = some m)
    (h1 : l ≤ h) (h2 : h ≤ m) (h3 : m ≤ c) (hmh : (mx.isSome && hi.isNone) = false) (w : World) : (Instr.sliceBounds isS n c lo hi mx).run P w = .ok (l, h, m) w := by
  cases mx with
  | none =>
    simp only [bnd, Option.some.injEq] at hm; subst hm
    cases hi with
    | none =>
      simp only [bnd, Option.some.injEq] at hh; subst hh
      cases lo with
      | none => simp only [bnd, Option.some.injEq] at hl; subst hl; simp only [Instr.sliceBounds, Sem.run_bind, Sem.run_pure, Result.andThen]
      | some x => simp only [Instr.sliceBounds, Sem.run_bind, Sem.run_pure, Result.andThen, run_bnd l _ _ hl h1]
    | some y =>
      cases lo with
      | none => simp only [bnd, Option.some.injEq] at hl; subst hl; simp only [Instr.sliceBounds, Sem.run_bind, Sem.run_pure, Result.andThen, run_bnd h _ _ hh h2]
      | some x => simp only [Instr.sliceBounds, Sem.run_bind, Sem.run_pure, Result.andThen, run_bnd h _ _ hh h2, run_bnd l _ _ hl h1]
  | some u =>
    cases hi with
    | none => simp at hmh
    | some y =>
      cases lo with
      | none => simp only [bnd, Option.some.injEq] at hl; subst hl; simp only [Instr.sliceBounds, Sem.run_bind, Sem.run_pure, Result.andThen, run_bnd m _ _ hm h3, run_bnd h _ _ hh h2]
      | some x => simp only [Instr.sliceBounds, Sem.run_bind, Sem.run_pure, Result.andThen, run_bnd m _ _ hm h3, run_bnd h _ _ hh h2, run_bnd l _ _ hl h1]

theorem ixN_rel {v v' : Value} {m : Nat} (h : ixN v = some m) (hv : VR ρ v v') : ixN v' = some m := by
  obtain ⟨kk, rfl⟩ := ixN_spec h
  cases hv; exact h
def OVR (ρ : Ren) : Option Value → Option Value → Prop
  | none, none => True
  | some v, some v' => VR ρ v v'
  | _, _ => False
theorem bnd_rel {o o' : Option Value} {d m : Nat} (h : bnd o d = some m) (ho : OVR ρ o o') : bnd o' d = some m := by
  cases o <;> cases o' <;> simp only [OVR] at ho
  · exact h
  · exact ixN_rel h ho

def isEE : Option Addr → Bool
  | some a => Nat.beq a.block EE
  | none => false
/-- x[lo:hi:mx] -/
def slV (T : TT) (t : TypeId) (x : Value) (lo hi mx : Option Value) : Option Value :=
  match (mx.isSome && hi.isNone) with
  | true => none
  | false => match T t with
    | none => none
    | some e => match e.d, x with
      | .string, .string s => match bnd lo 0, bnd hi s.size, mx with
        | some l, some h, none => match Nat.ble l h && Nat.ble h s.size with
          | true => some (.string (s.extract l h))
          | false => none
        | _, _, _ => none
      | .slice el, .slice p n c => match isEE p, T el with
        | true, _ => none
        | false, none => none
        | false, some g => match Nat.blt c UU with
          | true => match bnd lo 0, bnd hi n, bnd mx c with
            | some l, some h, some m => match Nat.ble l h && Nat.ble h m && Nat.ble m c with
              | true => some (.slice (match Nat.beq m l with | true => p | false => p.map (·.add (l * g.size))) (h - l) (m - l))
              | false => none
            | _, _, _ => none
          | false => match mx with
            | none => match bnd lo 0, bnd hi n with
              | some l, some h => match Nat.ble l h && Nat.ble h n && (Nat.beq l 0 || Nat.blt l n) && p.isSome with
                | true => some (.slice (p.map (·.add (l * g.size))) (h - l) (c + l))
                | false => match Nat.beq l n && Nat.beq h n && p.isSome with
                  | true => some (.slice (some ⟨EE, 0, none⟩) 0 0)
                  | false => none
              | _, _ => none
            | some _ => match bnd lo 0, bnd hi n, bnd mx n with
              | some l, some h, some m => match Nat.ble l h && Nat.ble h m && Nat.ble m n && Nat.blt n UU with
                | true => some (.slice (match Nat.beq m l with | true => p | false => p.map (·.add (l * g.size))) (h - l) (m - l))
                | false => none
              | _, _, _ => none
      | .pointer at_, .pointer (some p) => match T at_ with
        | none => none
        | some ea => match ea.d with
          | .array n el => match T el with
            | none => none
            | some g => match bnd lo 0, bnd hi n, bnd mx n with
              | some l, some h, some m => match Nat.ble l h && Nat.ble h m && Nat.ble m n && Nat.blt n UU with
                | true => some (.slice (some (match Nat.beq m l with | true => p | false => p.add (l * g.size))) (h - l) (m - l))
                | false => none
              | _, _, _ => none
          | _ => none
      | .array n el, .pointer (some p) => match T el with
        | none => none
        | some g => match bnd lo 0, bnd hi n, bnd mx n with
          | some l, some h, some m => match Nat.ble l h && Nat.ble h m && Nat.ble m n && Nat.blt n UU with
            | true => some (.slice (some (match Nat.beq m l with | true => p | false => p.add (l * g.size))) (h - l) (m - l))
            | false => none
          | _, _, _ => none
      | _, _ => none

theorem beq_if {α : Type} {m l : Nat} (x y : α) : (match Nat.beq m l with | true => x | false => y) = if m = l then x else y := by
  cases h : Nat.beq m l with
  | true => rw [if_pos (Nat.eq_of_beq_eq_true h)]
  | false => rw [if_neg (fun e => by subst e; simp at h)]

theorem vr_sl_add {i b C off : Nat} (hi : ρ i = some (b, C)) {n c c' : Nat} (hc : CapR C c c') (hn : n ≤ c') (j : Nat) :
    VR ρ (.slice (some ((⟨i, off, none⟩ : Addr).add j)) n c) (.slice (some ((⟨b, off, none⟩ : Addr).add j)) n c') := by
  unfold Addr.add
  split
  · exact .sl hi hc hn
  · exact .sl hi hc hn
theorem vr_sl_if {i b C off : Nat} (hi : ρ i = some (b, C)) {n c : Nat} (hc : c < UU) (hn : n ≤ c) (j : Nat) (q : Prop) [Decidable q] :
    VR ρ (.slice (if q then some ⟨i, off, none⟩ else some ((⟨i, off, none⟩ : Addr).add j)) n c) (.slice (if q then some ⟨b, off, none⟩ else some ((⟨b, off, none⟩ : Addr).add j)) n c) := by
  split
  · exact .sl hi (.inl ⟨hc, rfl⟩) hn
  · exact vr_sl_add hi (.inl ⟨hc, rfl⟩) hn j
theorem vr_sl_if' {i b C off : Nat} (hi : ρ i = some (b, C)) {n c : Nat} (hc : c < UU) (hn : n ≤ c) (j : Nat) (q : Prop) [Decidable q] :
    VR ρ (.slice (some (if q then ⟨i, off, none⟩ else (⟨i, off, none⟩ : Addr).add j)) n c) (.slice (some (if q then ⟨b, off, none⟩ else (⟨b, off, none⟩ : Addr).add j)) n c) := by
  split
  · exact .sl hi (.inl ⟨hc, rfl⟩) hn
  · exact vr_sl_add hi (.inl ⟨hc, rfl⟩) hn j
theorem ltUU {c : Nat} (h : Nat.blt c UU = true) : c < UU := Nat.lt_of_succ_le (Nat.le_of_ble_eq_true h)
theorem geUU {c : Nat} (h : Nat.blt c UU = false) : UU ≤ c := by
  apply Classical.byContradiction
  intro hn
  have : Nat.blt c UU = true := Nat.ble_eq_true_of_le (Nat.succ_le_of_lt (Nat.lt_of_not_le hn))
  rw [this] at h; cases h

theorem slice_rel (hT : TOK P T) {t : TypeId} {x x' v : Value} {lo hi mx lo' hi' mx' : Option Value} (hv : slV T t x lo hi mx = some v) (hx : VR ρ x x') (hlo : OVR ρ lo lo') (hhi : OVR ρ hi hi') (hmx : OVR ρ mx mx') (w : World) :
    ∃ v', (Instr.sliceAt t x' lo' hi' mx').run P w = .ok v' w ∧ VR ρ v v' := by
  unfold slV at hv
  split at hv
  · simp at hv
  · rename_i hmh
    have hmh' : (mx'.isSome && hi'.isNone) = false := by
      cases mx <;> cases mx' <;> cases hi <;> cases hi' <;> simp_all [OVR]
    cases ht : T t with
    | none => simp [ht] at hv
    | some e =>
      simp only [ht] at hv
      have hun := run_und hT ht w
      split at hv
      · rename_i s hd
        rw [hd] at hun
        split at hv
        · rename_i l h hl hh
          cases hb : (Nat.ble l h && Nat.ble h s.size) with
          | false => simp [hb] at hv
          | true =>
            simp only [hb, Option.some.injEq] at hv; subst hv
            simp only [Bool.and_eq_true] at hb
            cases hx
            cases mx' with
            | some u => simp [OVR] at hmx
            | none =>
              have hbs := run_bnds (P := P) (isS := false) (mx := none) (c := s.size) (m := s.size) (bnd_rel hl hlo) (bnd_rel hh hhi) rfl (Nat.le_of_ble_eq_true hb.1) (Nat.le_of_ble_eq_true hb.2) (Nat.le_refl _) rfl w
              refine ⟨_, ?_, .str _⟩
              simp only [Instr.sliceAt, Instr.slice, Sem.run_bind, hun, Result.andThen, Option.isSome_none, Bool.false_eq_true, if_false, hbs, Sem.run_pure]
        · simp at hv
      · rename_i el p n c hd
        rw [hd] at hun
        have hEE : isEE p = false := by
          cases hq : isEE p with
          | true => simp [hq] at hv
          | false => rfl
        simp only [hEE] at hv
        cases hg : T el with
        | none => simp [hg] at hv
        | some g =>
          simp only [hg] at hv
          have hsz := run_size hT hg w
          have fin : ∀ {p' : Option Addr} {c' l h m : Nat}, bnd lo' 0 = some l → bnd hi' n = some h → bnd mx' c' = some m → l ≤ h → h ≤ m → m ≤ c' →
              (Instr.sliceAt t (.slice p' n c') lo' hi' mx').run P w = .ok (.slice (if m = l then p' else p'.map (·.add (l * g.size))) (h - l) (m - l)) w := fun h1 h2 h3 h4 h5 h6 => by
            have hbs := run_bnds (P := P) (isS := true) h1 h2 h3 h4 h5 h6 hmh' w
            simp only [Instr.sliceAt, Instr.slice, Sem.run_bind, hun, Result.andThen, hbs, hsz, Sem.run_pure]
          cases hU : Nat.blt c UU with
          | true =>
            have hc := ltUU hU
            simp only [hU] at hv
            split at hv
            · rename_i l h m hl hh hm
              cases hb : (Nat.ble l h && Nat.ble h m && Nat.ble m c) with
              | false => simp [hb] at hv
              | true =>
                simp only [hb, Option.some.injEq, beq_if] at hv; subst hv
                simp only [Bool.and_eq_true] at hb
                obtain ⟨⟨b1, b2⟩, b3⟩ := hb
                have b1 := Nat.le_of_ble_eq_true b1
                have b2 := Nat.le_of_ble_eq_true b2
                have b3 := Nat.le_of_ble_eq_true b3
                cases hx with
                | sl0 n c =>
                  refine ⟨_, fin (bnd_rel hl hlo) (bnd_rel hh hhi) (bnd_rel hm hmx) b1 b2 b3, ?_⟩
                  simp only [Option.map_none, ite_self]
                  exact .sl0 _ _
                | sl hi' hc' hn' =>
                  have hce : _ = c := (hc'.resolve_right (fun h => by omega)).2
                  subst hce
                  refine ⟨_, fin (bnd_rel hl hlo) (bnd_rel hh hhi) (bnd_rel hm hmx) b1 b2 b3, ?_⟩
                  simp only [Option.map_some]
                  exact vr_sl_if hi' (by omega) (by omega) _ _
                | sle a0 c0 => exact absurd hEE (by simp [isEE])
            · simp at hv
          | false =>
            have hc := geUU hU
            simp only [hU] at hv
            split at hv
            · split at hv
              · rename_i l h hl hh
                cases hb : (Nat.ble l h && Nat.ble h n && (Nat.beq l 0 || Nat.blt l n) && p.isSome) with
                | false =>
                  simp only [hb] at hv
                  split at hv
                  · rename_i hb2
                    simp only [Option.some.injEq] at hv; subst hv
                    simp only [Bool.and_eq_true] at hb2
                    obtain ⟨⟨b1, b2⟩, bp⟩ := hb2
                    obtain rfl := Nat.eq_of_beq_eq_true b1
                    obtain rfl := Nat.eq_of_beq_eq_true b2
                    cases mx' with
                    | some u => simp [OVR] at hmx
                    | none =>
                      cases hx with
                      | sl0 n c => simp at bp
                      | sle a0 c0 => exact absurd hEE (by simp [isEE])
                      | @sl _ b0 C0 off0 _ _ c0 hi' hc' hn' =>
                        have hf := fin (p' := some ⟨b0, off0, none⟩) (bnd_rel hl hlo) (bnd_rel hh hhi) rfl (Nat.le_refl _) hn' (Nat.le_refl c0)
                        rw [Nat.sub_self] at hf
                        by_cases hm : c0 = h
                        · rw [if_pos hm] at hf
                          exact ⟨_, hf, .sle _ _⟩
                        · rw [if_neg hm] at hf
                          exact ⟨_, hf, .sle _ _⟩
                  · simp at hv
                | true =>
                  simp only [hb, Option.some.injEq] at hv; subst hv
                  simp only [Bool.and_eq_true, Bool.or_eq_true] at hb
                  obtain ⟨⟨⟨b1, b2⟩, b3⟩, bp⟩ := hb
                  have b1 := Nat.le_of_ble_eq_true b1
                  have b2 := Nat.le_of_ble_eq_true b2
                  have b3 : l = 0 ∨ l < n := b3.imp Nat.eq_of_beq_eq_true (fun h => Nat.lt_of_succ_le (Nat.le_of_ble_eq_true h))
                  cases mx' with
                  | some u => simp [OVR] at hmx
                  | none =>
                    cases hx with
                    | sl0 n c => simp at bp
                    | sle a0 c0 => exact absurd hEE (by simp [isEE])
                    | sl hi' hc' hn' =>
                      rename_i b C off c'
                      obtain ⟨_, hC⟩ := hc'.resolve_left (fun h => by omega)
                      refine ⟨_, fin (bnd_rel hl hlo) (bnd_rel hh hhi) rfl b1 (by omega) (Nat.le_refl _), ?_⟩
                      simp only [Option.map_some]
                      have hcap : CapR C (c + l) (c' - l) := .inr ⟨by omega, by omega⟩
                      by_cases hm : c' = l
                      · have hl0 : l = 0 := by omega
                        rw [if_pos hm]
                        subst hl0
                        simp only [Nat.zero_mul]
                        exact .sl hi' hcap (by omega)
                      · rw [if_neg hm]
                        exact vr_sl_add hi' hcap (by omega) _
              · simp at hv
            · rename_i u
              split at hv
              · rename_i l h m hl hh hm
                cases hb : (Nat.ble l h && Nat.ble h m && Nat.ble m n && Nat.blt n UU) with
                | false => simp [hb] at hv
                | true =>
                  simp only [hb, Option.some.injEq, beq_if] at hv; subst hv
                  simp only [Bool.and_eq_true] at hb
                  obtain ⟨⟨⟨b1, b2⟩, b3⟩, b4⟩ := hb
                  have b1 := Nat.le_of_ble_eq_true b1
                  have b2 := Nat.le_of_ble_eq_true b2
                  have b3 := Nat.le_of_ble_eq_true b3
                  have b4 := ltUU b4
                  have hm' : ∀ c', bnd mx' c' = some m := fun c' => by
                    cases mx' with
                    | none => simp [OVR] at hmx
                    | some u' => exact ixN_rel hm hmx
                  cases hx with
                  | sl0 n c =>
                    refine ⟨_, fin (bnd_rel hl hlo) (bnd_rel hh hhi) (hm' _) b1 b2 (by omega), ?_⟩
                    simp only [Option.map_none, ite_self]
                    exact .sl0 _ _
                  | sl hi' hc' hn' =>
                    refine ⟨_, fin (bnd_rel hl hlo) (bnd_rel hh hhi) (hm' _) b1 b2 (by omega), ?_⟩
                    simp only [Option.map_some]
                    exact vr_sl_if hi' (by omega) (by omega) _ _
                  | sle a0 c0 => exact absurd hEE (by simp [isEE])
              · simp at hv
      · rename_i at_ p hd
        rw [hd] at hun
        cases hta : T at_ with
        | none => simp [hta] at hv
        | some ea =>
          simp only [hta] at hv
          split at hv
          · rename_i n el hde
            have hua := run_und hT hta w
            rw [hde] at hua
            cases hg : T el with
            | none => simp [hg] at hv
            | some g =>
              simp only [hg] at hv
              have hsz := run_size hT hg w
              split at hv
              · rename_i l h m hl hh hm
                cases hb : (Nat.ble l h && Nat.ble h m && Nat.ble m n && Nat.blt n UU) with
                | false => simp [hb] at hv
                | true =>
                  simp only [hb, Option.some.injEq, beq_if] at hv; subst hv
                  simp only [Bool.and_eq_true] at hb
                  obtain ⟨⟨⟨b1, b2⟩, b3⟩, b4⟩ := hb
                  have b1 := Nat.le_of_ble_eq_true b1
                  have b2 := Nat.le_of_ble_eq_true b2
                  have b3 := Nat.le_of_ble_eq_true b3
                  have b4 := ltUU b4
                  have hbs := run_bnds (P := P) (isS := false) (bnd_rel hl hlo) (bnd_rel hh hhi) (bnd_rel hm hmx) b1 b2 b3 hmh' w
                  cases hx with
                  | ptr hi' =>
                    refine ⟨_, ?_, vr_sl_if' hi' (by omega) (by omega) _ _⟩
                    simp only [Instr.sliceAt, Instr.slice, Sem.run_bind, hun, hua, Result.andThen, asAddr, hbs, hsz, Sem.run_pure]
              · simp at hv
          · simp at hv
      · rename_i n el p hd
        rw [hd] at hun
        cases hg : T el with
        | none => simp [hg] at hv
        | some g =>
          simp only [hg] at hv
          have hsz := run_size hT hg w
          split at hv
          · rename_i l h m hl hh hm
            cases hb : (Nat.ble l h && Nat.ble h m && Nat.ble m n && Nat.blt n UU) with
            | false => simp [hb] at hv
            | true =>
              simp only [hb, Option.some.injEq, beq_if] at hv; subst hv
              simp only [Bool.and_eq_true] at hb
              obtain ⟨⟨⟨b1, b2⟩, b3⟩, b4⟩ := hb
              have b1 := Nat.le_of_ble_eq_true b1
              have b2 := Nat.le_of_ble_eq_true b2
              have b3 := Nat.le_of_ble_eq_true b3
              have b4 := ltUU b4
              have hbs := run_bnds (P := P) (isS := false) (bnd_rel hl hlo) (bnd_rel hh hhi) (bnd_rel hm hmx) b1 b2 b3 hmh' w
              cases hx with
              | ptr hi' =>
                refine ⟨_, ?_, vr_sl_if' hi' (by omega) (by omega) _ _⟩
                simp only [Instr.sliceAt, Sem.run_bind, hun, Result.andThen, Instr.sureAddr, hbs, hsz, Sem.run_pure]
          · simp at hv
      · simp at hv
end Go.EV
