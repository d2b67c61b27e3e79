import Derived.Test.YtkfkfpgnapncaaaGreatDoorSlE
import Derived.ControlIn
import Derived.Sort.LoopGhostIn
import Derived.RangeFuncIn
/-! What the walks' rules lean on. -/
namespace Go.SL
open Go Go.RowKit
variable {ro : Option Nat} {P : Program} {T : TT} {ops : Array Oper} {Q : Exit → Act → World → Prop} {a : Act} {w z : World} {ss : List HL} {K Y : Act → World → Prop}
theorem be {id : Nat} (h : Q .normal a w) : Exit.inBlock id Q (.exit id) a w := by
  show (if id = id then Q .normal a w else Q (.exit id) a w)
  rw [if_pos rfl]; exact h
theorem bne {id id' : Nat} (hne : (id' == id) = false) (h : Q (.exit id') a w) : Exit.inBlock id Q (.exit id') a w := by
  show (if id' = id then Q .normal a w else Q (.exit id') a w)
  rw [if_neg (by simpa using hne)]; exact h
/-! ### A slot, spelled otherwise -/
theorem put_same (a : Act) (j : Nat) (v : Value) (h : a.tmps.getD j undef = v) : a.put (some j) v = a := by
  obtain ⟨t, d⟩ := a
  simp only [Act.put]
  congr 1
  apply Array.ext_getElem?
  intro i
  rw [Array.getElem?_setIfInBounds]
  by_cases hi : j = i
  · subst hi
    by_cases hs : j < t.size
    · simp only [if_true, hs]
      subst h
      simp [hs]
    · simp [hs]
  · simp [hi]
/-! ### Results -/
def mkRes : List Value → Value
  | [v] => v
  | vs => .tuple vs.toArray

/-- A result variable holds v. -/
def RV (P : Program) (a : Act) (w : World) (r : ResultVar) (v : Value) : Prop :=
  match r with
  | .tmp t => a.tmps.getD t undef = v
  | .cell p ty => ∃ ad, a.tmps.getD p undef = .pointer (some ad) ∧ (loadVar ty ad).run P w = .ok v w

def RVs (P : Program) (a : Act) (w : World) : List ResultVar → List Value → Prop
  | [], [] => True
  | r :: rs, v :: vs => RV P a w r v ∧ RVs P a w rs vs
  | _, _ => False

def rvSem (tmps : Array Value) : ResultVar → Sem Value
  | .tmp t => pure (tmps.getD t undef)
  | .cell p t => do loadVar t (← asAddr (tmps.getD p undef))

theorem RV.run {r : ResultVar} {v : Value} (h : RV P a w r v) : (rvSem a.tmps r).run P w = .ok v w := by
  cases r with
  | tmp t =>
    have : a.tmps.getD t undef = v := h
    show (pure (a.tmps.getD t undef) : Sem Value).run P w = .ok v w
    rw [this]
    rfl
  | cell p ty =>
    obtain ⟨ad, h1, h2⟩ := h
    simp only [rvSem, Sem.run_bind, h1, asAddr, Sem.run_pure, Result.andThen, h2]

theorem RVs.run : ∀ (rs : List ResultVar) (vs : List Value), RVs P a w rs vs → (rs.mapM (rvSem a.tmps)).run P w = .ok vs w
  | [], [], _ => rfl
  | r :: rs, v :: vs, h => by
    rw [List.mapM_cons, Sem.run_bind, RV.run h.1]
    simp only [Result.andThen]
    rw [Sem.run_bind, RVs.run rs vs h.2]
    rfl
  | [], _ :: _, h => h.elim
  | _ :: _, [], h => h.elim

theorem results_run {fn : Func} {rs : List ResultVar} {vs : List Value} (hr : fn.results = rs.toArray) (h : RVs P a w rs vs) : (results fn a.tmps).run P w = .ok (mkRes vs) w := by
  have e : results fn a.tmps = (do
      let vs ← fn.results.mapM (rvSem a.tmps)
      pure (if h : vs.size = 1 then vs[0] else .tuple vs)) := rfl
  rw [e, hr, Sem.run_bind]
  have h1 := RVs.run rs vs h
  have h2 : (rs.toArray.mapM (rvSem a.tmps)).run P w = .ok vs.toArray w := by
    rw [List.mapM_toArray]
    show ((rs.mapM _ >>= fun l => pure l.toArray) : Sem (Array Value)).run P w = _
    rw [Sem.run_bind, h1]
    rfl
  rw [h2]
  simp only [Result.andThen]
  match vs with
  | [] => rfl
  | [v] => rfl
  | _ :: _ :: _ => rfl

theorem retN {fn : Func} {R : Value → World → Prop} {rs : List ResultVar} {vs : List Value} (hr : fn.results = rs.toArray) (hd : a.defers = []) (hv : RVs P a w rs vs) (h : R (mkRes vs) w) :
    bodyPost P fn (fun e w' => ∃ v, e = .returned v ∧ R v w') .ret a w := bodyPost_ret (results_run hr hv) hd ⟨_, rfl, h⟩
theorem endN {fn : Func} {R : Value → World → Prop} {rs : List ResultVar} {vs : List Value} (hr : fn.results = rs.toArray) (hd : a.defers = []) (hv : RVs P a w rs vs) (h : R (mkRes vs) w) :
    bodyPost P fn (fun e w' => ∃ v, e = .returned v ∧ R v w') .normal a w := bodyPost_end (results_run hr hv) hd ⟨_, rfl, h⟩
theorem retNC {fn : Func} {R : Ending → World → Prop} {rs : List ResultVar} {vs : List Value} (hr : fn.results = rs.toArray) (hd : a.defers = []) (hv : RVs P a w rs vs) (h : R (.returned (mkRes vs)) w) :
    bodyPost P fn R .ret a w := bodyPost_ret (results_run hr hv) hd h
theorem endNC {fn : Func} {R : Ending → World → Prop} {rs : List ResultVar} {vs : List Value} (hr : fn.results = rs.toArray) (hd : a.defers = []) (hv : RVs P a w rs vs) (h : R (.returned (mkRes vs)) w) :
    bodyPost P fn R .normal a w := bodyPost_end (results_run hr hv) hd h
theorem rv_cell (hT : TOK P T) {p ty : Nat} {b off : Nat} {cs : Array Value} {et : TypeId} {v : Value} (hO : Own z w ss) (i : Nat) (hp : a.tmps.getD p undef = .pointer (some ⟨b, off, none⟩))
    (hb : ss[i]? = some [(b, .cells cs et (0, 0))]) (hv : ldP T ty cs off = some v) : RV P a w (.cell p ty) v := ⟨_, hp, run_load_blk hT (hO.blk i hb) hv⟩
theorem has_nil : Has [] w := fun _ h => by cases h
theorem has_cons {b : Nat} {o : Obj} {l : HL} (h : w.heap[b]? = some o) (hl : Has l w) : Has ((b, o) :: l) w := fun p hp => by
  rcases List.mem_cons.1 hp with rfl | hp
  · exact h
  · exact hl p hp
theorem mem0 {α : Type} {x : α} {l : List α} : x ∈ x :: l := List.mem_cons_self
theorem memS {α : Type} {x y : α} {l : List α} (h : x ∈ l) : x ∈ y :: l := List.mem_cons_of_mem _ h
theorem two (t : Bool) {p : Prop} (ht : t = true → p) (hf : t = false → p) : p := by cases t; exact hf rfl; exact ht rfl
theorem rv_tmp {t : Tmp} {v : Value} (h : a.tmps.getD t undef = v) : RV P a w (.tmp t) v := h
theorem draw {id : Nat} (S : World → Prop) (N : Nat) (ord : List Stp) (hO : Own z w ss) (hm : P.follows .mixedOrders = true)
    (hc : (tailOk ops N && Region.noSelect ops && noDefer ops && chk ops N (Array.replicate ops.size false) ord && Nat.ble ord.length ops.size) = true)
    (hQ : ∀ c a w (d : Option Tmp) v, Q (.panic c) (a.put d v) w → Q (.panic c) a w)
    (h : ∀ w, Own z w ss → sem ro P ops Q S N ord a w) : (Code.region id ops true).wpIn (FW ro) 0 P Q a w :=
  region_draw S N ord hm hc hQ (h _ hO.drew)
end Go.SL
