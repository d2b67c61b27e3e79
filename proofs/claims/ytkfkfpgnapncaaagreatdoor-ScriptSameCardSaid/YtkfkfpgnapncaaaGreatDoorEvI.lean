import Derived.Test.YtkfkfpgnapncaaaGreatDoorEvH
set_option linter.unusedSimpArgs false
set_option linter.unusedVariables false
/-! What writes: append, copy. -/
noncomputable section
namespace Go.EV
open Go Go.RowKit Go.SL
variable {P : Program} {T : TT} {G : Nat} {ρ ρ' : Ren} {h : Hp} {n nt : Nat} {L : Nat → Option Obj} {z w : World} {env : En} {ro : Option Nat} {ops : Array Oper} {Q : Exit → Act → World → Prop} {k : Nat} {K : Act → World → Prop} {a : Act}

theorem WR.drew (hw : WR G T ρ h n L z w) : WR G T ρ h n L z { w with drawn := w.drawn + 1 } := ⟨hw.os, hw.tape, hw.output, hw.size, hw.dom, hw.hp, hw.inj, hw.fr, hw.gl⟩

def notInt : TypeDesc → Bool
  | .int _ => false
  | _ => true

/-- What is read of a slice: so many elements, these cells. -/
def srcV (H : Tri AO) (size : Nat) (v : Value) : Option (Nat × List Value) :=
  match v with
  | .slice none m _ => match m with | 0 => some (0, []) | _ + 1 => none
  | .slice (some _) 0 _ => some (0, [])
  | .slice (some ⟨i, off, none⟩) m _ => match H.get i with
    | some (.cells cs _ _) => match Nat.ble (off + m * size) cs.size with
      | true => some (m, (cs.toList.drop off).take (m * size))
      | false => none
    | _ => none
  | _ => none

theorem src_rel {H : Tri AO} (hw : WR G T ρ H.get n L z w) {size m : Nat} {v v' : Value} {l : List Value} (hs : srcV H size v = some (m, l)) (hv : VR ρ v v') :
    ∃ l', AR ρ l.toArray l'.toArray ∧ l.length = m * size ∧ Src P w size v' m l' := by
  unfold srcV at hs
  split at hs
  · split at hs
    · simp only [Option.some.injEq, Prod.mk.injEq] at hs
      obtain ⟨rfl, rfl⟩ := hs
      cases hv
      exact ⟨[], AR.nil, by simp, Src.nil⟩
    · simp at hs
  · simp only [Option.some.injEq, Prod.mk.injEq] at hs
    obtain ⟨rfl, rfl⟩ := hs
    have hz : ∀ (a : Option Addr) (c' : Nat), Src P w size (.slice a 0 c') 0 [] := fun a c' => ⟨⟨_, _, rfl⟩, fun w' _ => by
      cases a with
      | none => rfl
      | some a =>
        show (loadCells a (0 * size)).run P w' = _
        rw [Nat.zero_mul]; rfl⟩
    cases hv with
    | sl _ _ _ => exact ⟨[], AR.nil, by simp, hz _ _⟩
    | sle _ _ => exact ⟨[], AR.nil, by simp, hz _ _⟩
  · rename_i i off m' c hm0
    split at hs
    · rename_i cs et op hi
      split at hs
      · rename_i hle
        simp only [Option.some.injEq, Prod.mk.injEq] at hs
        obtain ⟨rfl, rfl⟩ := hs
        have hle := Nat.le_of_ble_eq_true hle
        cases hv with
        | sle _ _ => exact absurd rfl hm0
        | sl hb _ _ =>
          obtain ⟨b', C', o', g1, g2, _, cs', sp, rfl, hc, hop⟩ := hw.hp i _ hi
          rw [hb] at g1
          obtain ⟨rfl, rfl⟩ := Prod.mk.inj (Option.some.inj g1)
          have hsrc := Src.blk (P := P) (size := size) (m := m') (off := off) (c := ‹Nat›) g2 (by rw [Array.size_append, ← hc.1]; omega)
          refine ⟨_, ?_, by simp; omega, hsrc⟩
          have h1 := ((hc.drop off).take (m' * size))
          have h2 : (((cs' ++ sp).toList.drop off).take (m' * size)) = ((cs'.toList.drop off).take (m' * size)) := by
            simp only [Array.toList_append, List.drop_append, List.take_append, List.length_drop, Array.length_toList]
            rw [show m' * size - (cs'.size - off) = 0 by rw [← hc.1]; omega]
            simp
          rw [h2]
          simpa using h1
      · simp at hs
    · simp at hs
  · simp at hs

theorem run_append_raw (hT : TOK P T) {t t2 el : TypeId} {e e2 g : TE} {zv : Value} (ht : T t = some e) (hde : e.d = .slice el) (ht2 : T t2 = some e2) (hn2 : notInt e2.d = true) (hg : T el = some g) (hgz : g.zero = some zv) {p : Option Addr} {len c m : Nat} {x : Value} {news : List Value}
    (hsrc : Src P w g.size x m news) (hb : (len + m) * g.bytes ≤ 140737488355328) (hb0 : 0 < g.bytes) (ty : TypeId) :
    (len + m ≤ c → (Builtin.append_ #[t, t2] ty #[.slice p len c, x]).run P w = (do
      if let some a := p then storeCells (a.add (len * g.size)) news
      pure (.slice p (len + m) c) : Sem Value).run P w) ∧
    (¬ len + m ≤ c → ∀ old : List Value, (∀ w' : World, w'.heap = w.heap → (Builtin.firstCells g.size len (.slice p len c)).run P w' = .ok old.toArray w') →
      ∃ nc, len + m ≤ nc ∧ (Builtin.append_ #[t, t2] ty #[.slice p len c, x]).run P w = .ok (.slice (some ⟨w.heap.size, 0, none⟩) (len + m) nc)
        { w with drawn := w.drawn + 1, heap := w.heap.push (.cells ((old.toArray ++ news.toArray) ++ Builtin.zeroCells zv.cells (nc - (len + m))) el (0, 0)) }) := by
  have hu := run_und hT ht w
  rw [hde] at hu
  have hu2 := run_und hT ht2 w
  obtain ⟨⟨q, cq, rfl⟩, hread⟩ := hsrc
  have hz2 : (match e2.d with | .int _ => true | _ => false) = false := by
    cases hd : e2.d <;> simp_all [notInt]
  have hrun : ∀ r, ((Builtin.append_ #[t, t2] ty #[.slice p len c, .slice q m cq]).run P w = r) = ((if len + m ≤ c then do
      let new ← Builtin.firstCells g.size m (.slice q m cq)
      if let some a := p then storeCells (a.add (len * g.size)) new.toList
      pure (.slice p (len + m) c)
    else do
      let newCap ← choose (.appendCap (len + m) c el)
      askRoom (newCap * g.bytes)
      let old ← Builtin.firstCells g.size len (.slice p len c)
      let new ← Builtin.firstCells g.size m (.slice q m cq)
      let rest := Builtin.zeroCells zv.cells (newCap - (len + m))
      pure (.slice (some (← newRow el (old ++ new ++ rest))) (len + m) newCap) : Sem Value).run P w = r) := by
    intro r
    have hs := run_size hT hg
    obtain ⟨_, ti, hti, hti2, hti3, hti4⟩ := hT.ok el g hg
    have hfit : ¬ (len + m ≤ c) → ¬ (281474976710656 < Builtin.nextslicecap (len + m) c * g.bytes) := fun hn => Nat.not_lt.2 (next_fits (by omega) hb)
    have h63 : ¬ ((9223372036854775807 : Int) < ((len : Int) + (m : Int))) := by
      have h2 : (len + m) * 1 ≤ (len + m) * g.bytes := Nat.mul_le_mul_left _ hb0
      omega
    by_cases hn : len + m ≤ c
    · simp [Builtin.append_, hu, hu2, hs, Builtin.lenOf, hn]
      generalize e2.d = dd at *
      cases dd <;> simp_all [notInt]
      all_goals first | rfl | exact Iff.rfl
    · simp [Builtin.append_, hu, hu2, hs, Builtin.lenOf, hn, typeInfo, hti, hti3, hfit hn, h63, zeroValue, hti4, hgz, Nat.pos_iff_ne_zero.1 hb0]
      generalize e2.d = dd at *
      cases dd <;> simp_all [notInt]
      all_goals first | rfl | exact Iff.rfl
  refine ⟨fun hroom => ?_, fun hroom old hold => ?_⟩
  · refine (hrun _).mpr ?_
    have h0 := hread w rfl
    simp only [hroom, if_true, Sem.run_bind, h0, Result.andThen]
  · let w1 : World := { w with drawn := w.drawn + 1 }
    let nc := (Question.appendCap (len + m) c el).cut (w.tape w.drawn (.appendCap (len + m) c el))
    have hn : len + m ≤ nc := by show len + m ≤ Question.cut _ _; simp only [Question.cut]; omega
    refine ⟨nc, hn, (hrun _).mpr ?_⟩
    have hch : (choose (.appendCap (len + m) c el)).run P w = .ok nc w1 := by
      simp [Question.forced, w1, nc]
    simp only [hroom, if_false, Sem.run_bind, hch, Result.andThen, run_askRoom, hold w1 rfl, hread w1 rfl, newRow, run_newObj, Sem.run_pure]
    rfl

/-- append: what it gives; the rows then; the next free number. -/
def appV (T : TT) (H : Tri AO) (nx : Nat) (t t2 : TypeId) (x y : Value) : Option (Value × Tri AO × Nat) :=
  match T t, T t2 with
  | some e, some e2 => match e.d, notInt e2.d with
    | .slice el, true => match T el with
      | some g => match g.zero, Nat.blt 0 g.bytes && Nat.blt 0 g.size && Tri.fits nx, srcV H g.size y, x with
        | some zv, true, some (m, news), .slice p n c =>
          match Nat.ble ((n + m) * g.bytes) 140737488355328 && Nat.beq zv.cells.size g.size && news.all Value.oneCell' with
          | false => none
          | true => match m, p with
            | 0, _ => match p, Nat.ble n c with
              | none, true => some (x, H, nx)
              | some _, _ => some (x, H, nx)
              | none, false => none
            | m + 1, none => match Nat.beq n 0 && Nat.beq c 0 with
              | true => some (.slice (some ⟨nx, 0, none⟩) (m + 1) UU, H.set nx (some (.cells news.toArray el true)), nx + 1)
              | false => none
            | m + 1, some ⟨i, off, sp⟩ => match sp, H.get i with
              | none, some (.cells cs et op) =>
                match Nat.blt c UU with
                | true => match Nat.ble (n + (m + 1)) c with
                  | true => match Nat.ble (off + n * g.size + news.length) cs.size && Tri.fits i with
                    | true => some (.slice (some ⟨i, off, none⟩) (n + (m + 1)) c, H.set i (some (.cells (spl cs (off + n * g.size) news) et op)), nx)
                    | false => none
                  | false => match Nat.ble (off + n * g.size) cs.size with
                    | true => some (.slice (some ⟨nx, 0, none⟩) (n + (m + 1)) UU, H.set nx (some (.cells ((cs.toList.drop off).take (n * g.size) ++ news).toArray el true)), nx + 1)
                    | false => none
                | false => match Nat.beq c UU && Nat.beq off 0 && op && Nat.beq (n * g.size) cs.size && Tri.fits i && Nat.beq et el with
                  | true => some (.slice (some ⟨nx, 0, none⟩) (n + (m + 1)) UU, (H.set i none).set nx (some (.cells (cs.toList ++ news).toArray el true)), nx + 1)
                  | false => none
              | _, _ => none
        | _, _, _, _ => none
      | none => none
    | _, _ => none
  | _, _ => none

theorem noEE {nx : Nat} (h : Tri.fits nx = true) : ¬ EE < nx := by
  have : nx < 1073741824 := Nat.lt_of_succ_le (Nat.le_of_ble_eq_true h)
  unfold EE
  omega
theorem zc_len {zv : Value} {size : Nat} (h : zv.cells.size = size) (n : Nat) : (Builtin.zeroCells zv.cells n).size = n * size := by
  simp [Builtin.zeroCells, h]

/-- A new row of what was and what is new, with room behind it. -/
theorem new_row (hw : WR G T ρ h n L z w) {el : TypeId} {g : TE} {zv : Value} (hg : T el = some g) (hzs : zv.cells.size = g.size) (hs0 : 0 < g.size) {len : Nat} {cs cs' : Array Value} (hc : AR ρ cs cs') (hl : cs.size = len * g.size) {nc : Nat} (hnc : len ≤ nc) :
    ∃ ρ', Ext n ρ ρ' ∧ VR ρ' (.slice (some ⟨n, 0, none⟩) len UU) (.slice (some ⟨w.heap.size, 0, none⟩) len nc) ∧
      WR G T ρ' (updH h n (some (.cells cs el true))) (n + 1) L z { w with drawn := w.drawn + 1, heap := w.heap.push (.cells (cs' ++ Builtin.zeroCells zv.cells (nc - len)) el (0, 0)) } := by
  have hn : ρ n = none := hw.dom n (Nat.le_refl _)
  have h1 := hw.drew.new (i := n) (n' := n + 1) hn (by omega) (by omega) nc (p := .cells cs el true) (p' := .cells (cs' ++ Builtin.zeroCells zv.cells (nc - len)) el (0, 0)) ⟨cs', _, rfl, hc, fun _ => ⟨g, hg, hs0, by
    rw [zc_len hzs, ← hc.1, hl, ← Nat.add_mul]; congr 1; omega⟩⟩
  exact ⟨_, ext_updR (Nat.le_refl _), .sl (show updR ρ n (w.heap.size, nc) n = some (w.heap.size, nc) by simp [updR]) (.inr ⟨Nat.le_refl _, by omega⟩) hnc, h1⟩

theorem app_rel (hT : TOK P T) {H H' : Tri AO} {nx nx' : Nat} (hw : WR G T ρ H.get nx L z w) {t t2 : TypeId} {x x' y y' v : Value} (hx : VR ρ x x') (hy : VR ρ y y') (ha : appV T H nx t t2 x y = some (v, H', nx')) (ty : TypeId) :
    nx ≤ nx' ∧ ∃ ρ' v' w', (Builtin.append_ #[t, t2] ty #[x', y']).run P w = .ok v' w' ∧ Ext nx ρ ρ' ∧ VR ρ' v v' ∧ WR G T ρ' H'.get nx' L z w' := by
  unfold appV at ha
  split at ha
  · rename_i e e2 ht ht2
    split at ha
    · rename_i el hd hn2
      cases hg : T el with
      | none => simp [hg] at ha
      | some g =>
        simp only [hg] at ha
        split at ha
        · rename_i zv m news p n c hz hc0 hsrc
          simp only [Bool.and_eq_true] at hc0
          obtain ⟨⟨hb0, hs0⟩, hfx⟩ := hc0
          have hb0 : 0 < g.bytes := Nat.lt_of_succ_le (Nat.le_of_ble_eq_true hb0)
          have hs0 : 0 < g.size := Nat.lt_of_succ_le (Nat.le_of_ble_eq_true hs0)
          split at ha
          · simp at ha
          · rename_i hc1
            simp only [Bool.and_eq_true] at hc1
            obtain ⟨⟨hb, hzs⟩, hone⟩ := hc1
            replace hb := Nat.le_of_ble_eq_true hb
            replace hzs := Nat.eq_of_beq_eq_true hzs
            obtain ⟨news', hn', hlen, hsrc'⟩ := src_rel (P := P) hw hsrc hy
            have hlen' : news'.length = m * g.size := by rw [← hlen]; exact (LR.of hn').1.symm
            have raw := fun (p' : Option Addr) (c' : Nat) => run_append_raw (p := p') (len := n) (c := c') hT ht hd ht2 hn2 hg hz hsrc' hb hb0 ty
            split at ha
            · -- nothing is appended
              have h0 : news' = [] := List.eq_nil_of_length_eq_zero (by rw [hlen']; simp)
              have keep : ∀ (q : Option Addr) (c' : Nat), n ≤ c' → (Builtin.append_ #[t, t2] ty #[.slice q n c', y']).run P w = .ok (.slice q n c') w := fun q c' hle => by
                rw [(raw q c').1 (by omega), h0]
                cases q <;> simp [storeCells]
              split at ha
              · rename_i hle
                simp only [Option.some.injEq, Prod.mk.injEq] at ha
                obtain ⟨rfl, rfl, rfl⟩ := ha
                cases hx
                exact ⟨Nat.le_refl _, ρ, _, w, keep _ _ (Nat.le_of_ble_eq_true hle), Ext.refl _ _, .sl0 _ _, hw⟩
              · simp only [Option.some.injEq, Prod.mk.injEq] at ha
                obtain ⟨rfl, rfl, rfl⟩ := ha
                cases hx with
                | sl hb hc hn => exact ⟨Nat.le_refl _, ρ, _, w, keep _ _ hn, Ext.refl _ _, .sl hb hc hn, hw⟩
                | sle a0 c0 => exact ⟨Nat.le_refl _, ρ, _, w, keep _ _ (Nat.zero_le _), Ext.refl _ _, .sle _ _, hw⟩
              · simp at ha
            · -- a slice of nothing
              rename_i m
              split at ha
              · rename_i h00
                simp only [Bool.and_eq_true] at h00
                obtain ⟨e1, e2⟩ := h00
                obtain rfl := Nat.eq_of_beq_eq_true e1
                obtain rfl := Nat.eq_of_beq_eq_true e2
                simp only [Option.some.injEq, Prod.mk.injEq] at ha
                obtain ⟨rfl, rfl, rfl⟩ := ha
                cases hx
                obtain ⟨nc, hnc, hr⟩ := (raw none 0).2 (by omega) [] (fun w' _ => rfl)
                rw [Nat.zero_add] at hnc hr
                obtain ⟨ρ', he, hv, hw'⟩ := new_row hw hg hzs hs0 hn' (by simpa using hlen) hnc
                refine ⟨by omega, ρ', _, _, hr, he, hv, ?_⟩
                have : (([] : List Value).toArray ++ news'.toArray) = news'.toArray := by simp
                rw [this]
                exact hw'.conv (upd_set hfx)
              · simp at ha
            · rename_i m i off sp
              split at ha
              · rename_i cs et op hi
                split at ha
                · -- a capacity that is known
                  rename_i hU
                  have hU := ltUU hU
                  cases hx with
                  | sle a0 c0 => exact absurd (hw.hdom hi) (noEE hfx)
                  | @sl _ b C _ _ _ c' hbi hc hnn =>
                    have hce : c' = c := (hc.resolve_right (fun h => by omega)).2
                    subst hce
                    split at ha
                    · rename_i hroom
                      have hroom := Nat.le_of_ble_eq_true hroom
                      split at ha
                      · rename_i hcc
                        simp only [Bool.and_eq_true] at hcc
                        obtain ⟨c1, c2⟩ := hcc
                        have c1 := Nat.le_of_ble_eq_true c1
                        simp only [Option.some.injEq, Prod.mk.injEq] at ha
                        obtain ⟨rfl, rfl, rfl⟩ := ha
                        obtain ⟨w', h1, h2⟩ := stores_rel (P := P) (off := off + n * g.size) hw hi hbi hn' hone c1
                        refine ⟨Nat.le_refl _, ρ, _, w', ?_, Ext.refl _ _, .sl hbi (.inl ⟨hU, rfl⟩) hroom, h2.conv (upd_set c2)⟩
                        rw [(raw _ _).1 hroom]
                        simp only [Addr.add_mid, Sem.run_bind, h1, Result.andThen, Sem.run_pure]
                      · simp at ha
                    · rename_i hroom
                      have hroom : ¬ n + (m + 1) ≤ c' := fun h => by
                        rw [Nat.ble_eq_true_of_le h] at hroom; cases hroom
                      split at ha
                      · rename_i hle
                        have hle := Nat.le_of_ble_eq_true hle
                        simp only [Option.some.injEq, Prod.mk.injEq] at ha
                        obtain ⟨rfl, rfl, rfl⟩ := ha
                        have hs1 : srcV H g.size (.slice (some ⟨i, off, none⟩) n c') = some (n, (cs.toList.drop off).take (n * g.size)) := by
                          cases n with
                          | zero => simp [srcV]
                          | succ n => simp only [srcV, hi, Nat.ble_eq_true_of_le hle]
                        obtain ⟨old', ho', hol, hos⟩ := src_rel (P := P) hw hs1 (.sl hbi hc hnn)
                        obtain ⟨nc, hnc, hr⟩ := (raw _ _).2 hroom old' (fun w' e => hos.2 w' e)
                        obtain ⟨ρ', he, hv, hw'⟩ := new_row hw hg hzs hs0 (AR.app ho' hn') (by simp only [List.size_toArray, List.length_append, hol, hlen, ← Nat.add_mul]) hnc
                        refine ⟨by omega, ρ', _, _, hr, he, hv, ?_⟩
                        have : (old'.toArray ++ news'.toArray) = (old' ++ news').toArray := by simp
                        rw [this]
                        exact hw'.conv (upd_set hfx)
                      · simp at ha
                · -- a capacity that is the block's
                  rename_i hU
                  have hU := geUU hU
                  split at ha
                  · rename_i hcc
                    simp only [Bool.and_eq_true] at hcc
                    obtain ⟨⟨⟨⟨⟨c1, c2⟩, c3⟩, c4⟩, c5⟩, c6⟩ := hcc
                    obtain rfl := Nat.eq_of_beq_eq_true c1
                    obtain rfl := Nat.eq_of_beq_eq_true c2
                    have c4 := Nat.eq_of_beq_eq_true c4
                    subst c3
                    simp only [Option.some.injEq, Prod.mk.injEq] at ha
                    obtain ⟨rfl, rfl, rfl⟩ := ha
                    cases hx with
                    | @sl _ b C _ _ _ c' hbi hc hnn =>
                      obtain ⟨_, hC⟩ := hc.resolve_left (fun h => by omega)
                      have hC : c' = C := by omega
                      subst hC
                      have hin : i < nx := hw.hdom hi
                      have hne : i ≠ nx := by omega
                      by_cases hroom : n + (m + 1) ≤ c'
                      · obtain rfl := Nat.eq_of_beq_eq_true c6
                        obtain ⟨b', C', o', g1, g2, hLb, cs', sp, rfl, hcc, hop⟩ := hw.hp i _ hi
                        rw [hbi] at g1
                        obtain ⟨rfl, rfl⟩ := Prod.mk.inj (Option.some.inj g1)
                        obtain ⟨g', hg', hs', htot⟩ := hop rfl
                        rw [hg] at hg'
                        obtain rfl := Option.some.inj hg'
                        have hcs' : cs'.size = n * g.size := by rw [← hcc.1, c4]
                        have hmul : (n + (m + 1)) * g.size ≤ c' * g.size := Nat.mul_le_mul_right _ hroom
                        rw [Nat.add_mul] at hmul
                        have hlen2 : news'.length = (m + 1) * g.size := hlen'
                        have hst := run_storeCells_at (P := P) b (n * g.size) et news' 0 (cs' ++ sp) w g2 (by rw [Array.size_append]; omega) (by
                          have := ones_rel hn' (by simpa using hone)
                          simpa using this)
                        have hrow : ((cs' ++ sp).toList.take (n * g.size + 0) ++ news' ++ (cs' ++ sp).toList.drop (n * g.size + 0 + news'.length)).toArray = (cs'.toList ++ news').toArray ++ (sp.toList.drop news'.length).toArray := by
                          apply Array.ext'
                          simp only [Nat.add_zero, Array.toList_append, List.take_append, List.drop_append, Array.length_toList, hcs']
                          rw [List.take_of_length_le (by simp [hcs']), List.drop_eq_nil_of_le (by simp [hcs'])]
                          simp
                        rw [hrow, setRow_eq g2] at hst
                        have hX : OR T ρ c' (.cells (cs.toList ++ news).toArray et true) (.cells ((cs'.toList ++ news').toArray ++ (sp.toList.drop news'.length).toArray) et (0, 0)) :=
                          ⟨_, _, rfl, AR.app (by simpa using hcc) hn', fun _ => ⟨g, hg, hs0, by simp; omega⟩⟩
                        have hp1 := hw.put hi hbi hX
                        obtain ⟨b2, C2, o2, q1, q2, q3, q4⟩ := hp1.aside (i := i) (o := .cells (cs.toList ++ news).toArray et true) (by simp [updH])
                        rw [hbi] at q1
                        obtain ⟨rfl, rfl⟩ := Prod.mk.inj (Option.some.inj q1)
                        have hnone : ρ nx = none := hw.dom nx (Nat.le_refl _)
                        have hext := q4.ext (j := nx) (n' := nx + 1) hnone (by omega) (by omega) (b, c')
                        have hnx : H.get nx = none := by
                          cases hq : H.get nx with
                          | none => rfl
                          | some o => have := hw.hdom hq; omega
                        have hfin := WR.back q3 hext (i := nx) (C := c') (by simp [updR]) (q2.mono (le_updR hnone)) (by simp only [updH]; rw [if_neg (fun e => hne e.symm), if_neg (fun e => hne e.symm)]; exact hnx)
                        refine ⟨by omega, updR ρ nx (b, c'), _, _, ?_, ext_updR (Nat.le_refl _), .sl (show updR ρ nx (b, c') nx = some (b, c') by simp [updR]) (.inr ⟨Nat.le_refl _, by omega⟩) hroom, hfin.conv fun j => ?_⟩
                        · rw [(raw _ _).1 hroom]
                          simp only [Addr.add_mid, Nat.zero_add, Sem.run_bind, hst, Result.andThen, Sem.run_pure]
                        · rw [upd_set hfx]
                          simp only [updH]
                          by_cases e1 : j = nx
                          · simp [e1]
                          · rw [if_neg e1, if_neg e1, upd_set c5, updH]
                            by_cases e2 : j = i
                            · simp [e2]
                            · rw [if_neg e2, if_neg e2, if_neg e2]
                      · have hs1 : srcV H g.size (.slice (some ⟨i, 0, none⟩) n UU) = some (n, (cs.toList.drop 0).take (n * g.size)) := by
                          cases n with
                          | zero => simp [srcV]
                          | succ n => simp only [srcV, hi, Nat.zero_add, c4, Nat.ble_eq_true_of_le (Nat.le_refl _)]
                        obtain ⟨old', ho', hol, hos⟩ := src_rel (P := P) hw hs1 (.sl hbi hc hnn)
                        obtain ⟨nc, hnc, hr⟩ := (raw _ _).2 hroom old' (fun w' e => hos.2 w' e)
                        have hcs : (cs.toList.drop 0).take (n * g.size) = cs.toList := by rw [List.drop_zero, c4, ← Array.length_toList, List.take_length]
                        rw [hcs] at ho' hol
                        obtain ⟨ρ', he, hv, hw'⟩ := new_row (hw.drop i) hg hzs hs0 (AR.app ho' hn') (by simp only [List.size_toArray, List.length_append, hol, hlen, ← Nat.add_mul]) hnc
                        refine ⟨by omega, ρ', _, _, hr, he, hv, ?_⟩
                        have : (old'.toArray ++ news'.toArray) = (old' ++ news').toArray := by simp
                        rw [this]
                        refine hw'.conv fun j => ?_
                        rw [upd_set hfx, updH, updH, upd_set c5]
                  · simp at ha
              · simp at ha
        · simp at ha
    · simp at ha
  · simp at ha
end Go.EV
