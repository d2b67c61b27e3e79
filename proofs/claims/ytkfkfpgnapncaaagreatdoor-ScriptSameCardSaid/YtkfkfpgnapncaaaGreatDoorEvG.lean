import Derived.Test.YtkfkfpgnapncaaaGreatDoorEvF
set_option linter.unusedSimpArgs false
set_option linter.unusedVariables false
/-! What lays a block; what writes. -/
noncomputable section
namespace Go.EV
open Go Go.RowKit Go.SL
variable {P : Program} {T : TT} {G : Nat} {ρ ρ' : Ren} {h : Hp} {n nt : Nat} {L : Nat → Option Obj} {z w : World} {env : En} {ro : Option Nat} {ops : Array Oper} {Q : Exit → Act → World → Prop} {k : Nat} {K : Act → World → Prop} {a : Act}

inductive Mk where
  | ptr
  | sl (n c : Nat)
  | map
def Mk.at : Mk → Nat → Value
  | .ptr, i => .pointer (some ⟨i, 0, none⟩)
  | .sl n c, i => .slice (some ⟨i, 0, none⟩) n c
  | .map, i => .map (some i)
def Mk.ok : Mk → Bool
  | .sl n c => Nat.blt c UU && Nat.ble n c
  | _ => true
theorem Mk.vr {m : Mk} (hm : m.ok = true) {i b C : Nat} (hi : ρ i = some (b, C)) : VR ρ (m.at i) (m.at b) := by
  cases m with
  | ptr => exact .ptr hi
  | sl n c =>
    unfold Mk.ok at hm
    rw [Bool.and_eq_true] at hm
    exact .sl hi (.inl ⟨ltUU hm.1, rfl⟩) (Nat.le_of_ble_eq_true hm.2)
  | map => exact .map hi

def evPs (G : Nat) (env : En) : List (Nat × Operand) → Option (List (Nat × Value))
  | [] => some []
  | (i, x) :: r => match evO G env x, evPs G env r with
    | some v, some l => some ((i, v) :: l)
    | _, _ => none
theorem evPs_rel (hw : WR G T ρ h n L z w) (hs : SR ρ nt env a.tmps) : ∀ (ps : List (Nat × Operand)) (l : List (Nat × Value)), evPs G env ps = some l → PsR ρ l (ps.map fun (i, x) => (i, a.eval x))
  | [], l, hl => by simp only [evPs, Option.some.injEq] at hl; subst hl; trivial
  | (i, x) :: r, l, hl => by
    simp only [evPs] at hl
    split at hl
    · rename_i v l' hv hl'
      simp only [Option.some.injEq] at hl
      subst hl
      exact ⟨rfl, ev_rel hw hs hv, evPs_rel hw hs r l' hl'⟩
    · simp at hl

/-- The cells of n elements, each zero. -/
def zcells (zv : Value) (n : Nat) : Array Value := rows (fun _ : Unit => zv.cells.toList) (List.replicate n ()) []
def bsV (T : TT) (el : TypeId) (len : Nat) (parts : List (Nat × Value)) : Option (Array Value) :=
  match T el with
  | none => none
  | some g => match g.zero with
    | none => none
    | some zv => match Nat.ble (len * g.size) 16777216 && Nat.beq zv.cells.size g.size && Nat.blt 0 g.size with
      | true => Instr.fill (fun i => some (i * g.size, g.size)) (zcells zv len) parts
      | false => none

/-- One operation that lays a block and does nothing else. -/
def fltV (T : TT) (G : Nat) (env : En) (o : Op) : Option (AO × Mk) :=
  match o with
  | .alloc t => match T t with
    | some e => match e.zero with
      | some zv => some (.cells zv.cells t false, .ptr)
      | none => none
    | none => none
  | .box t x => match evO G env x with
    | some v => some (.cells v.cells t false, .ptr)
    | none => none
  | .buildSlice t len parts => match T t with
    | some e => match e.d with
      | .slice el => match evPs G env parts.toList with
        | some l => match bsV T el len l with
          | some cs => match Nat.blt len UU with
            | true => some (.cells cs el false, .sl len len)
            | false => none
          | none => none
        | none => none
      | _ => none
    | none => none
  | .makeMap _ none => some (.map [] true, .map)
  | .makeSlice t x y => match T t with
    | some e => match e.d with
      | .slice el => match T el with
        | some g => match g.zero, evO G env x, evO G env y with
          | some zv, some vx, some vy => match ixN vx, ixN vy with
            | some m, some m' => match Nat.ble m m' && Nat.ble (m' * g.bytes) 140737488355328 && Nat.blt 0 g.bytes && Nat.beq zv.cells.size g.size && Nat.blt 0 g.size && Nat.blt m' UU with
              | true => some (.cells (zcells zv m') el false, .sl m m')
              | false => none
            | _, _ => none
          | _, _, _ => none
        | none => none
      | _ => none
    | none => none
  | _ => none

theorem zcells_eq {zv : Value} (hs : 0 < zv.cells.size) (n : Nat) : (Array.range (n * zv.cells.size)).map (zv.cells[· % zv.cells.size]!) = zcells zv n :=
  fill_rows (enc := fun _ : Unit => zv.cells.toList) (x0 := ()) (size := zv.cells.size) rfl (fun _ => by simp) hs n
theorem zcells_ar {zv : Value} (hz : AR ρ zv.cells zv.cells) (n : Nat) : AR ρ (zcells zv n) (zcells zv n) := by
  refine ⟨rfl, fun i x x' h1 h2 => ?_⟩
  rw [h1] at h2
  obtain rfl := Option.some.inj h2
  have hx : x ∈ zv.cells.toList := by
    have hm : x ∈ (zcells zv n).toList := List.mem_of_getElem? (i := i) (by simpa using h1)
    unfold zcells rows at hm
    simp only [List.append_nil, List.mem_flatMap] at hm
    obtain ⟨_, _, hm⟩ := hm
    exact hm
  obtain ⟨j, hj⟩ := List.getElem?_of_mem hx
  rw [Array.getElem?_toList] at hj
  exact hz.2 j x x hj hj

theorem run_makeSlice (hT : TOK P T) {t el : TypeId} {e g : TE} {zv : Value} {kk kk' : IntKind} {l m : Nat} (hlm : l ≤ m) (ht : T t = some e) (hde : e.d = .slice el) (hg : T el = some g) (hgz : g.zero = some zv) (hb : m * g.bytes ≤ 2 ^ 47) (hb0 : 0 < g.bytes) (hzs : zv.cells.size = g.size) (hs : 0 < g.size) (w : World) :
    (Instr.makeSlice t (.int kk (l : Int)) (.int kk' (m : Int))).run P w = .ok (.slice (some ⟨w.heap.size, 0, none⟩) l m) { w with heap := w.heap.push (.cells (zcells zv m) el (0, 0)) } := by
  have hu := run_und hT ht w
  rw [hde] at hu
  obtain ⟨_, ti, hti, hti2, hti3, hti4⟩ := hT.ok el g hg
  have hn : m ≤ 2 ^ 47 := Nat.le_trans (Nat.le_mul_of_pos_right m hb0) hb
  have hw1 : IntKind.i64.wrap (m : Int) = m := wrap_i64_of (by omega) (by omega)
  have hw2 : IntKind.i64.wrap (l : Int) = l := wrap_i64_of (by omega) (by omega)
  have hbi : ((g.bytes : Int) * (m : Int)) ≤ 2 ^ 47 := by
    have : ((m * g.bytes : Nat) : Int) ≤ ((2 ^ 47 : Nat) : Int) := Int.ofNat_le.2 hb
    rw [Nat.mul_comm] at this
    simpa using this
  have hf1 : (Array.range (m * g.size)).map (zv.cells[· % zv.cells.size]!) = zcells zv m := by
    rw [← hzs]; exact zcells_eq (by omega) m
  have hroom : ¬ (m * g.bytes > roomBytes) := by
    show ¬ (m * g.bytes > 2 ^ 47)
    omega
  have hbn : ¬ ((g.bytes : Int) * (m : Int) > 2 ^ 48) := by omega
  have hai : ∀ kk, (asIntOf (.int kk (m : Int))).run P w = .ok (kk, (m : Int)) w := fun _ => rfl
  have hai2 : ∀ kk, (asIntOf (.int kk (l : Int))).run P w = .ok (kk, (l : Int)) w := fun _ => rfl
  have hpr : program.run P w = .ok P w := rfl
  have hn0 : ¬ ((m : Int) < 0) := by omega
  have hl0 : ¬ ((l : Int) < 0) := by omega
  have hnn : ¬ ((l : Int) > (m : Int)) := by omega
  have hask : (askRoom (m * g.bytes)).run P w = .ok () w := by
    simp only [askRoom, hroom, if_false, Sem.run_pure]
  have hsz := run_size hT hg w
  have hzr := run_zero hT hg hgz w
  simp only [Instr.makeSlice, Sem.run_bind, hu, Result.andThen, asInt, Sem.run_pure, typeInfo, hti, hai, hai2, hpr, hw1, hw2, hti3, hbn, hn0, hl0, hnn, decide_false, Bool.or_false, Bool.false_eq_true, if_false, Int.toNat_natCast, hask, hsz]
  by_cases h00 : m * g.size = 0
  · have hn' : m = 0 := by
      rcases Nat.mul_eq_zero.1 h00 with h | h
      · exact h
      · omega
    subst hn'
    obtain rfl : l = 0 := by omega
    simp [newRow, zcells, rows, show Array.range 0 = #[] from rfl]
  · simp only [h00, if_false, Sem.run_bind, hzr, Result.andThen, Sem.run_pure, newRow, hf1]
    rfl

theorem fltV_ok (hT : TOK P T) (hZ : TZ T) (hw : WR G T ρ h n L z w) (hs : SR ρ nt env a.tmps) {o : Oper} {ao : AO} {mk : Mk} (hv : fltV T G env o.op = some (ao, mk)) :
    mk.ok = true ∧ ∃ o' C, OR T ρ C ao o' ∧ (∀ {w' : World}, w'.heap.size = w'.heap.size → (execOp a.eval o).run P w' = .ok (.value (mk.at w'.heap.size)) { w' with heap := w'.heap.push o' }) := by
  obtain ⟨dst, op, type, pos, after, guard⟩ := o
  simp only at hv
  unfold fltV at hv
  split at hv
  · rename_i t
    cases ht : T t with
    | none => simp [ht] at hv
    | some e =>
      cases hz : e.zero with
      | none => simp [ht, hz] at hv
      | some zv =>
        simp only [ht, hz, Option.some.injEq, Prod.mk.injEq] at hv
        obtain ⟨rfl, rfl⟩ := hv
        refine ⟨rfl, .cells zv.cells t (0, 0), 0, ⟨zv.cells, #[], by simp, (scal2_vr (hZ _ _ _ ht hz)).cells, by simp⟩, fun {w'} _ => ?_⟩
        simp [execOp, Instr.alloc, run_zero hT ht hz, newVar, newRow, Mk.at]
  · rename_i t x
    cases hx : evO G env x with
    | none => simp [hx] at hv
    | some v =>
      simp only [hx, Option.some.injEq, Prod.mk.injEq] at hv
      obtain ⟨rfl, rfl⟩ := hv
      refine ⟨rfl, .cells (a.eval x).cells t (0, 0), 0, ⟨(a.eval x).cells, #[], by simp, (ev_rel hw hs hx).cells, by simp⟩, fun {w'} _ => ?_⟩
      simp [execOp, Instr.box, newVar, newRow, Mk.at]
  · rename_i t len parts
    cases ht : T t with
    | none => simp [ht] at hv
    | some e =>
      simp only [ht] at hv
      split at hv
      · rename_i el hd
        cases hl : evPs G env parts.toList with
        | none => simp [hl] at hv
        | some l =>
          cases hb : bsV T el len l with
          | none => simp [hl, hb] at hv
          | some cs =>
            simp only [hl, hb] at hv
            split at hv
            · rename_i hU
              simp only [Option.some.injEq, Prod.mk.injEq] at hv
              obtain ⟨rfl, rfl⟩ := hv
              unfold bsV at hb
              cases hg : T el with
              | none => simp [hg] at hb
              | some g =>
                cases hz : g.zero with
                | none => simp [hg, hz] at hb
                | some zv =>
                  simp only [hg, hz] at hb
                  split at hb
                  · rename_i hc
                    simp only [Bool.and_eq_true] at hc
                    obtain ⟨⟨c1, c2⟩, c3⟩ := hc
                    have c1 := Nat.le_of_ble_eq_true c1
                    have c2 := Nat.eq_of_beq_eq_true c2
                    have c3 : 0 < g.size := Nat.lt_of_succ_le (Nat.le_of_ble_eq_true c3)
                    obtain ⟨cs', h1, h2⟩ := fill_rel l (parts.toList.map fun (i, x) => (i, a.eval x)) _ _ cs (evPs_rel hw hs _ _ hl) (zcells_ar (scal2_vr (hZ _ _ _ hg hz)).cells len) hb
                    refine ⟨by show (Nat.blt len UU && Nat.ble len len) = true; rw [hU, Nat.ble_eq_true_of_le (Nat.le_refl _)]; rfl, .cells cs' el (0, 0), 0, ⟨cs', #[], by simp, h2, by simp⟩, fun {w'} _ => ?_⟩
                    have hu := run_und hT ht w'
                    rw [hd] at hu
                    have hle : ¬ len * g.size > 2 ^ 24 := by omega
                    have hzc : (Array.range (len * g.size)).map (zv.cells[· % zv.cells.size]!) = zcells zv len := by
                      rw [← c2]; exact zcells_eq (by omega) len
                    have hps : (parts.map fun (i, x) => (i, a.eval x)).toList = parts.toList.map fun (i, x) => (i, a.eval x) := by simp
                    by_cases h00 : len * g.size = 0
                    · have hz0 : zcells zv len = #[] := by
                        have : len = 0 := by
                          rcases Nat.mul_eq_zero.1 h00 with h | h
                          · exact h
                          · omega
                        subst this; rfl
                      rw [hz0] at h1
                      have h024 : ¬ (0 > 2 ^ 24) := by decide
                      simp only [execOp, Instr.buildSlice, Sem.run_bind, hu, Result.andThen, run_size hT hg w', h00, h024, if_false, if_true, Sem.run_pure]
                      have h1' : Instr.fill (fun i => some (i * g.size, g.size)) ((Array.range 0).map ((#[] : Array Value)[· % (#[] : Array Value).size]!)) (parts.map fun (i, x) => (i, a.eval x)).toList = some cs' := by
                        rw [hps, show Array.range 0 = #[] from rfl]; simpa using h1
                      rw [h1']
                      simp [newRow, Mk.at]
                    · simp only [execOp, Instr.buildSlice, Sem.run_bind, hu, Result.andThen, run_size hT hg w', hle, if_false, h00, run_zero hT hg hz w', Sem.run_pure, hzc, hps, h1]
                      simp [newRow, Mk.at]
                  · simp at hb
            · simp at hv
      · simp at hv
  · simp only [Option.some.injEq, Prod.mk.injEq] at hv
    obtain ⟨rfl, rfl⟩ := hv
    refine ⟨rfl, .map #[] 0, 0, ⟨#[], [], 0, rfl, trivial, .refl _, fun _ => rfl⟩, fun {w'} _ => ?_⟩
    simp [execOp, Instr.makeMap, Mk.at]
  · rename_i t x y
    cases ht : T t with
    | none => simp [ht] at hv
    | some e =>
      simp only [ht] at hv
      split at hv
      · rename_i el hd
        cases hg : T el with
        | none => simp [hg] at hv
        | some g =>
          simp only [hg] at hv
          split at hv
          · rename_i zv vx vy hz hx hy
            split at hv
            · rename_i m m' hm hm'
              split at hv
              · rename_i hc
                simp only [Bool.and_eq_true] at hc
                obtain ⟨⟨⟨⟨⟨c0, c1⟩, c2⟩, c3⟩, c4⟩, c5⟩ := hc
                simp only [Option.some.injEq, Prod.mk.injEq] at hv
                obtain ⟨rfl, rfl⟩ := hv
                have c0 := Nat.le_of_ble_eq_true c0
                obtain ⟨k1, e1⟩ := ixN_spec (ixN_rel hm (ev_rel hw hs hx))
                obtain ⟨k2, e2⟩ := ixN_spec (ixN_rel hm' (ev_rel hw hs hy))
                refine ⟨by show (Nat.blt m' UU && Nat.ble m m') = true; rw [c5, Nat.ble_eq_true_of_le c0]; rfl, .cells (zcells zv m') el (0, 0), 0, ⟨zcells zv m', #[], by simp, zcells_ar (scal2_vr (hZ _ _ _ hg hz)).cells m', by simp⟩, fun {w'} _ => ?_⟩
                have := run_makeSlice (P := P) (kk := k1) (kk' := k2) hT c0 ht hd hg hz (Nat.le_of_ble_eq_true c1) (Nat.lt_of_succ_le (Nat.le_of_ble_eq_true c2)) (Nat.eq_of_beq_eq_true c3) (Nat.lt_of_succ_le (Nat.le_of_ble_eq_true c4)) w'
                simp only [execOp, e1, e2, Sem.run_bind, this, Result.andThen, Sem.run_pure, Mk.at]
              · simp at hv
            · simp at hv
          · simp at hv
      · simp at hv
  · simp at hv
end Go.EV
