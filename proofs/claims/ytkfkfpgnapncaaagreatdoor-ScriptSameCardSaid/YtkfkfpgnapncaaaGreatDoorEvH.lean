import Derived.Test.YtkfkfpgnapncaaaGreatDoorEvG
set_option linter.unusedSimpArgs false
set_option linter.unusedVariables false
/-! What writes: stores, maps. -/
noncomputable section
namespace Go.EV
open Go Go.RowKit Go.SL
variable {P : Program} {T : TT} {G : Nat} {ρ ρ' : Ren} {h : Hp} {n nt : Nat} {L : Nat → Option Obj} {z w : World} {env : En} {ro : Option Nat} {ops : Array Oper} {Q : Exit → Act → World → Prop} {k : Nat} {K : Act → World → Prop} {a : Act}

structure St where
  h : Tri AO
  n : Nat

theorem upd_set {H : Tri AO} {i : Nat} {x : Option AO} (hf : Tri.fits i = true) : ∀ j, (H.set i x).get j = updH H.get i x j := fun j => by
  rw [Tri.get_set hf]; rfl

theorem one_rel {v v' : Value} (hv : VR ρ v v') (h : v.oneCell' = true) : v'.oneCell' = true := by
  cases hv <;> first | rfl | simp [Value.oneCell'] at h
theorem ones_rel {cs cs' : Array Value} (hc : AR ρ cs cs') (h : cs.toList.all Value.oneCell' = true) : ∀ v ∈ cs'.toList, v.oneCell' = true := fun v hv => by
  obtain ⟨j, hj⟩ := List.getElem?_of_mem hv
  rw [Array.getElem?_toList] at hj
  have hlt : j < cs'.size := (Array.getElem?_eq_some_iff.1 hj).1
  have hlt' : j < cs.size := by rw [hc.1]; exact hlt
  have hx : cs[j]? = some cs[j] := by simp [hlt']
  exact one_rel (hc.2 j _ _ hx hj) (List.all_eq_true.1 h _ (by simp))

/-- Some cells are written. -/
def spl (cs : Array Value) (at_ : Nat) (new : List Value) : Array Value := (cs.toList.take at_ ++ new ++ cs.toList.drop (at_ + new.length)).toArray

theorem LR.of {l l' : List Value} (h : AR ρ l.toArray l'.toArray) : l.length = l'.length ∧ ∀ (i : Nat) (x x' : Value), l[i]? = some x → l'[i]? = some x' → VR ρ x x' := ⟨by simpa using h.1, fun i x x' a b => h.2 i x x' (by simpa using a) (by simpa using b)⟩
theorem LR.mk {l l' : List Value} (h1 : l.length = l'.length) (h2 : ∀ (i : Nat) (x x' : Value), l[i]? = some x → l'[i]? = some x' → VR ρ x x') : AR ρ l.toArray l'.toArray := ⟨by simpa using h1, fun i x x' a b => h2 i x x' (by simpa using a) (by simpa using b)⟩
theorem AR.take {cs cs' : Array Value} (h : AR ρ cs cs') (j : Nat) : AR ρ (cs.toList.take j).toArray (cs'.toList.take j).toArray := LR.mk (by simp [h.1]) fun i x x' a b => by
  rw [List.getElem?_take] at a b
  split at a
  · rename_i hi; rw [if_pos hi] at b; exact h.2 i x x' (by simpa using a) (by simpa using b)
  · simp at a
theorem AR.drop {cs cs' : Array Value} (h : AR ρ cs cs') (j : Nat) : AR ρ (cs.toList.drop j).toArray (cs'.toList.drop j).toArray := LR.mk (by simp [h.1]) fun i x x' a b => by
  rw [List.getElem?_drop] at a b
  exact h.2 _ x x' (by simpa using a) (by simpa using b)
theorem AR.app {a a' b b' : List Value} (h : AR ρ a.toArray a'.toArray) (h' : AR ρ b.toArray b'.toArray) : AR ρ (a ++ b).toArray (a' ++ b').toArray := by
  have := h.append h'
  simpa using this
theorem spl_rel {cs cs' : Array Value} (hc : AR ρ cs cs') (at_ : Nat) {new new' : List Value} (hn : AR ρ new.toArray new'.toArray) : AR ρ (spl cs at_ new) (spl cs' at_ new') := by
  have hl := (LR.of hn).1
  unfold spl
  rw [← hl]
  exact AR.app (AR.app (hc.take _) hn) (hc.drop _)
theorem spl_app {cs sp : Array Value} {at_ : Nat} {new : List Value} (h : at_ + new.length ≤ cs.size) : ((cs ++ sp).toList.take at_ ++ new ++ (cs ++ sp).toList.drop (at_ + new.length)).toArray = spl cs at_ new ++ sp := by
  unfold spl
  apply Array.ext'
  simp only [Array.toList_append, List.take_append, List.drop_append, Array.length_toList]
  rw [show at_ - cs.size = 0 by omega, show at_ + new.length - cs.size = 0 by omega]
  simp
theorem spl_size {cs : Array Value} {at_ : Nat} {new : List Value} (h : at_ + new.length ≤ cs.size) : (spl cs at_ new).size = cs.size := by
  unfold spl
  simp
  omega

/-- Cells that are written into a block. -/
theorem stores_rel (hw : WR G T ρ h n L z w) {i b C off : Nat} {cs : Array Value} {et : TypeId} {op : Bool} (hi : h i = some (.cells cs et op)) (hb : ρ i = some (b, C)) {new new' : List Value}
    (hn : AR ρ new.toArray new'.toArray) (h1 : new.all Value.oneCell' = true) (hle : off + new.length ≤ cs.size) :
    ∃ w', (storeCells ⟨b, off, none⟩ new').run P w = .ok () w' ∧ WR G T ρ (updH h i (some (.cells (spl cs off new) et op))) n L z w' := by
  obtain ⟨b', C', o', g1, g2, _, cs', sp, rfl, hc, hop⟩ := hw.hp i _ hi
  rw [hb] at g1
  obtain ⟨rfl, rfl⟩ := Prod.mk.inj (Option.some.inj g1)
  have hln := (LR.of hn).1
  have hst := run_storeCells_at (P := P) b off et new' 0 (cs' ++ sp) w g2 (by rw [Array.size_append, ← hc.1]; omega) (by
    have := ones_rel hn (by simpa using h1)
    simpa using this)
  rw [Nat.add_zero, spl_app (by rw [← hc.1]; omega), setRow_eq g2] at hst
  refine ⟨_, hst, hw.put hi hb ⟨spl cs' off new', sp, rfl, spl_rel hc off hn, fun he => ?_⟩⟩
  obtain ⟨g, e1, e2, e3⟩ := hop he
  exact ⟨g, e1, e2, by rw [spl_size (by rw [← hc.1]; omega)]; exact e3⟩

/-- One variable that is written. -/
def stV (T : TT) (H : Tri AO) (t : TypeId) (x v : Value) : Option (Tri AO) :=
  match x with
  | .pointer (some ⟨i, off, none⟩) => match H.get i, T t with
    | some (.cells cs et op), some e => match Nat.beq v.cells.size e.size && Nat.ble (off + v.cells.size) cs.size && v.cells.toList.all Value.oneCell' && Tri.fits i with
      | true => some (H.set i (some (.cells (spl cs off v.cells.toList) et op)))
      | false => none
    | _, _ => none
  | _ => none

theorem store_rel (hT : TOK P T) {H H' : Tri AO} (hw : WR G T ρ H.get n L z w) {t : TypeId} {x x' v v' : Value} (hx : VR ρ x x') (hv : VR ρ v v') (hs : stV T H t x v = some H') :
    ∃ w', (Instr.storeAt t x' v').run P w = .ok () w' ∧ WR G T ρ H'.get n L z w' := by
  unfold stV at hs
  split at hs
  · rename_i i off
    split at hs
    · rename_i cs et op e hi ht
      split at hs
      · rename_i hc
        simp only [Option.some.injEq] at hs; subst hs
        simp only [Bool.and_eq_true] at hc
        obtain ⟨⟨⟨c1, c2⟩, c3⟩, c4⟩ := hc
        cases hx with
        | ptr hb =>
          have hvc := hv.cells
          have hl : AR ρ v.cells.toList.toArray v'.cells.toList.toArray := by simpa using hvc
          obtain ⟨w', h1, h2⟩ := stores_rel (P := P) (off := off) hw hi hb hl c3 (by simpa using Nat.le_of_ble_eq_true c2)
          refine ⟨w', ?_, h2.conv (upd_set c4)⟩
          have hsz : v'.cells.size = e.size := by rw [← hvc.1]; exact Nat.eq_of_beq_eq_true c1
          simp only [Instr.storeAt, Instr.sureAddr, Sem.run_bind, Sem.run_pure, Result.andThen, storeVar, run_size hT ht w, hsz, ne_eq, not_true, if_false, h1]
      · simp at hs
    · simp at hs
  · simp at hs

/-! ### Maps that are written -/
/-- The value of a key that is there is written. -/
def updA (d : TypeDesc) (kv v : Value) : List (Value × Value) → Option (List (Value × Value))
  | [] => none
  | p :: r => match Instr.sameNow d kv p.1 with
    | some true => some ((p.1, v) :: r)
    | some false => match updA d kv v r with
      | some l => some (p :: l)
      | none => none
    | none => none

def mpV (T : TT) (H : Tri AO) (t : TypeId) (m kv v : Value) : Option (Tri AO) :=
  match T t with
  | some e => match e.d with
    | .map kt _ => match T kt, m with
      | some g, .map (some i) => match H.get i, plainKey g.d kv, Tri.fits i with
        | some (.map es ord), true, true => match lkA g.d kv es with
          | some [] => some (H.set i (some (.map (es ++ [(kv, v)]) ord)))
          | some [_] => match ord, updA g.d kv v es with
            | true, some es' => some (H.set i (some (.map es' true)))
            | _, _ => none
          | _ => none
        | _, _, _ => none
      | _, _ => none
    | _ => none
  | none => none

theorem MR.snoc : ∀ {es : List (Value × Value)} {es' : List MapEntry}, MR ρ es es' → ∀ {k v : Value} {e : MapEntry}, k = e.key → VR ρ v e.val → MR ρ (es ++ [(k, v)]) (es' ++ [e])
  | [], [], _, _, _, _, h1, h2 => ⟨h1, h2, trivial⟩
  | _ :: _, _ :: _, hm, _, _, _, h1, h2 => ⟨hm.1, hm.2.1, MR.snoc hm.2.2 h1 h2⟩
  | [], _ :: _, hm, _, _, _, _, _ => hm.elim
  | _ :: _, [], hm, _, _, _, _, _ => hm.elim

theorem byte_eq {a b : ByteArray} (h : (a == b) = true) : a = b := by
  cases a with | mk x => cases b with | mk y =>
  have : x = y := eq_of_beq h
  rw [this]
theorem byte_self (a : ByteArray) : (a == a) = true := by
  cases a with | mk x =>
  exact beq_self_eq_true x
theorem same_key {d : TypeDesc} {kv kv' : Value} (h : Instr.sameNow d kv kv' = some true) (hp : plainKey d kv = true) : kv' = kv := by
  unfold Instr.sameNow at h
  split at h
  · split at h
    · rename_i hk
      simp only [Option.some.injEq] at h
      have := eq_of_beq h
      subst this; subst hk; rfl
    · simp at h
  · simp only [Option.some.injEq] at h
    have := byte_eq h
    subst this; rfl
  · simp [plainKey] at hp
  · simp at h

theorem upd_rel {d : TypeDesc} {kv v v' : Value} (hp : plainKey d kv = true) (hv : VR ρ v v') : ∀ {es r : List (Value × Value)} {es' : List MapEntry} (j : Nat), MR ρ es es' → updA d kv v es = some r →
    ∃ i u, Instr.findNow d kv es' j = some (some (j + i, u)) ∧ (es'[i]?).map (·.key) = some kv ∧ MR ρ r (es'.modify i fun e => { e with key := kv, val := v' })
  | [], r, _, j, _, hr => by simp [updA] at hr
  | p :: es, r, e :: es', j, hm, hr => by
    simp only [updA] at hr
    have hk : p.1 = e.key := hm.1
    split at hr
    · rename_i hs
      simp only [Option.some.injEq] at hr; subst hr
      rw [hk] at hs
      have hke := same_key hs hp
      refine ⟨0, e.val, ?_, by simp [hke], ?_⟩
      · simp only [Instr.findNow, hs, Nat.add_zero]
      · exact ⟨by show p.1 = kv; rw [hk, hke], hv, hm.2.2⟩
    · rename_i hs
      rw [hk] at hs
      split at hr
      · rename_i l hl
        simp only [Option.some.injEq] at hr; subst hr
        obtain ⟨i, u, h1, h2, h3⟩ := upd_rel hp hv (j + 1) hm.2.2 hl
        refine ⟨i + 1, u, ?_, by simpa using h2, ?_⟩
        · simp only [Instr.findNow, hs, h1]; congr 3; omega
        · exact ⟨hk, hm.2.1, h3⟩
      · simp at hr
    · simp at hr
  | _ :: _, _, [], _, hm, _ => hm.elim

theorem stays {d : TypeDesc} {kv : Value} (hp : plainKey d kv = true) (w : World) : (Instr.keyThatStays kv kv).run P w = .ok kv w := by
  have hs : Instr.sameBits 10000 kv kv = true := by
    unfold plainKey at hp
    split at hp
    · simp [Instr.sameBits]
    · simp [Instr.sameBits, byte_self]
    · simp at hp
  simp only [Instr.keyThatStays, hs, if_true, Sem.run_pure]

theorem map_rel (hT : TOK P T) {H H' : Tri AO} (hw : WR G T ρ H.get n L z w) {t : TypeId} {m m' kv kv' v v' : Value} (hm : VR ρ m m') (hk : VR ρ kv kv') (hv : VR ρ v v') (hs : mpV T H t m kv v = some H') :
    ∃ w', (Instr.mapUpdate t m' kv' v').run P w = .ok () w' ∧ WR G T ρ H'.get n L z w' := by
  unfold mpV at hs
  cases ht : T t with
  | none => simp [ht] at hs
  | some e =>
    simp only [ht] at hs
    split at hs
    · rename_i kt vt hd
      split at hs
      · rename_i g i hg
        split at hs
        · rename_i es ord hi hp hf
          obtain rfl := plainKey_vr hp hk
          cases hm with
          | @map _ b0 C0 hb =>
            obtain ⟨b', C', o', g1, g2, _, es', es'', c, rfl, hmr, hperm, hord⟩ := hw.hp i _ hi
            rw [hb] at g1
            obtain ⟨rfl, rfl⟩ := Prod.mk.inj (Option.some.inj g1)
            have hun := run_und hT ht w
            rw [hd] at hun
            have hku : ∀ w, (underlying kt).run P w = .ok g.d w := fun w => run_und hT hg w
            have hp' := fun b => run_checkKeyP (P := P) (b := b) hku hp
            split at hs
            · rename_i hl
              simp only [Option.some.injEq] at hs; subst hs
              obtain ⟨l1, hl1, hv1⟩ := lk_rel hmr hl
              have hl1e : l1 = [] := by cases l1 with | nil => rfl | cons x r => exact hv1.elim
              subst hl1e
              obtain ⟨l2, hl2, hpl⟩ := lkC_perm hperm hl1
              have hl2e : l2 = [] := List.nil_perm.1 hpl
              subst hl2e
              obtain ⟨r, hr1, hr2⟩ := findNow_lk 0 hl2
              have hr3 : r = none := by simpa using hr2
              subst hr3
              refine ⟨{ w with heap := w.heap.setIfInBounds b0 (.map (es'.push ⟨kv', v', c⟩) (c + 1)) }, ?_, (hw.put (p := .map (es ++ [(kv', v)]) ord) hi hb ⟨es'.push ⟨kv', v', c⟩, es'' ++ [⟨kv', v', c⟩], c + 1, rfl, hmr.snoc rfl hv, by simpa using hperm.append (List.Perm.refl _), fun ho => by simp [hord ho]⟩).conv (upd_set hf)⟩
              simp only [Instr.mapUpdate, Sem.run_bind, hun, Result.andThen, Go.SL.run_getObj_map g2, hp', Instr.findKey, hku, hr1, Sem.run_pure, Go.SL.run_setObj_map _ g2]
            · split at hs
              · rename_i r hu
                simp only [Option.some.injEq] at hs; subst hs
                have he := hord rfl
                subst he
                obtain ⟨j, u, h1, h2, h3⟩ := upd_rel hp hv 0 hmr hu
                rw [Nat.zero_add] at h1
                refine ⟨{ w with heap := w.heap.setIfInBounds b0 (.map (es'.modify j fun e => { e with key := kv', val := v' }) c) }, ?_, (hw.put (p := .map r true) hi hb ⟨es'.modify j fun e => { e with key := kv', val := v' }, (es'.modify j fun e => { e with key := kv', val := v' }).toList, c, rfl, by simpa using h3, .refl _, fun _ => rfl⟩).conv (upd_set hf)⟩
                have hkey : ((es'[j]?).map (·.key)).getD kv' = kv' := by
                  rw [← Array.getElem?_toList, h2]; rfl
                simp only [Instr.mapUpdate, Sem.run_bind, hun, Result.andThen, Go.SL.run_getObj_map g2, hp', Instr.findKey, hku, h1, Sem.run_pure, hkey, stays hp, Go.SL.run_setObj_map _ g2]
              · simp at hs
            · simp at hs
        · simp at hs
      · simp at hs
    · simp at hs
end Go.EV
