import Derived.Test.YtkfkfpgnapncaaaGreatDoorEvO
set_option linter.unusedSimpArgs false
set_option linter.unusedVariables false
/-! A region that draws, walked by what holds of each set of operations that are done. -/
noncomputable section
namespace Go.EV
open Go Go.RowKit Go.SL
variable {ro : Option Nat} {P : Program} {ops : Array Oper} {Q : Exit → Act → World → Prop} {w z : World} {nt : Nat}

/-- How many are not done. -/
def left (L : Array Bool) : Nat := (L.toList.filter (· == false)).length

theorem left_set {L : Array Bool} {i : Nat} (h : L.getD i true = false) : left (L.setIfInBounds i true) + 1 = left L := by
  have hlt : i < L.size := by
    rcases Nat.lt_or_ge i L.size with h' | h'
    · exact h'
    · simp [Array.getElem?_eq_none h'] at h
  have he : L[i] = false := by simpa [hlt] using h
  unfold left
  rw [Array.toList_setIfInBounds]
  have e : L.toList = L.toList.take i ++ false :: L.toList.drop (i + 1) := by
    have hl : i < L.toList.length := by simpa using hlt
    have : L.toList[i] = false := by simpa using he
    rw [← this, ← List.drop_eq_getElem_cons hl, List.take_append_drop]
  have hlen : (L.toList.take i).length = i := by simp; omega
  rw [e]
  rw [List.set_append_right _ _ (by omega)]
  simp only [hlen, Nat.sub_self, List.set_cons_zero, List.filter_append, List.length_append, List.filter_cons]
  simp
  omega

theorem left_replicate (n : Nat) : left (Array.replicate n false) = n := by simp [left]

theorem wpAnyN_inv (Inv : Array Bool → Act → World → Prop)
    (step : ∀ L a w i, Inv L a w → i ∈ Region.ready .any ops L → opW ro P ops Q i (fun a' w' => Inv (L.setIfInBounds i true) a' w') a w)
    (fin : ∀ L a w, Inv L a w → Region.ready .any ops L = [] → Q .normal a w) : ∀ (fuel : Nat) (L : Array Bool) (a : Act) (w : World), left L ≤ fuel → Inv L a w → wpAnyN ro P ops Q (fun _ => True) 0 fuel L a w
  | 0, L, a, w, hl, h => by
    have hr : Region.ready .any ops L = [] := by
      apply List.eq_nil_iff_forall_not_mem.2
      intro i hi
      have := left_set (mem_ready.1 hi).1
      omega
    exact ⟨hr, fin L a w h hr⟩
  | fuel + 1, L, a, w, hl, h => ⟨fun hr => fin L a w h hr, fun i hi => opW_mono (fun a' w' h' => ⟨fun h0 => absurd h0 (by omega), wpAnyN_inv Inv step fin fuel _ a' w' (by have := left_set (mem_ready.1 hi).1; omega) h'⟩) (step L a w i h hi)⟩

theorem draw_inv {id : Nat} {a : Act} (Inv : Array Bool → Act → World → Prop) (hm : P.follows .mixedOrders = true) (h0 : Inv (Array.replicate ops.size false) a w.drew)
    (step : ∀ L a w i, Inv L a w → i ∈ Region.ready .any ops L → opW ro P ops Q i (fun a' w' => Inv (L.setIfInBounds i true) a' w') a w)
    (fin : ∀ L a w, Inv L a w → Region.ready .any ops L = [] → Q .normal a w) : (Code.region id ops true).wpIn (FW ro) 0 P Q a w :=
  wpIn_region_any hm (wpAny_of_N (S := fun _ => True) (N := 0) _ _ _ _ (wpAnyN_inv Inv step fin _ _ _ _ (by rw [left_replicate]; exact Nat.le_refl _) h0))

/-- What is done has what it waits for done. -/
def Shut (ops : Array Oper) (L : Array Bool) : Prop := ∀ i o, ops[i]? = some o → L.getD i true = true → ∀ e ∈ o.after, Region.binds .any e = true → L.getD e.on false = true
theorem Shut.set {L : Array Bool} {i : Nat} (h : Shut ops L) (hi : i ∈ Region.ready .any ops L) : Shut ops (L.setIfInBounds i true) := by
  intro j o ho hj e he hb
  obtain ⟨_, oi, hoi, hall⟩ := mem_ready.1 hi
  have key : L.getD e.on false = true := by
    by_cases hji : j = i
    · subst hji
      rw [ho] at hoi
      obtain rfl := Option.some.inj hoi
      exact hall e he hb
    · rw [getD_set_ne true (Ne.symm hji)] at hj
      exact h j o ho hj e he hb
  exact getD_set_true key
/-- If nothing is ready, all is done, where each waits for earlier ones alone. -/
theorem all_done {L : Array Bool} (hs : L.size = ops.size) (hr : Region.ready .any ops L = []) (hb : (List.range ops.size).all (fun i => (ops[i]?).all fun o => o.after.all fun e => !(Region.binds .any e) || Nat.blt e.on i) = true) : ∀ i, i < ops.size → L.getD i false = true := by
  intro i
  induction i using Nat.strongRecOn with
  | _ i ih =>
    intro hi
    cases hL : L.getD i false with
    | true => rfl
    | false =>
      have hin : i ∈ Region.ready .any ops L := by
        refine mem_ready.2 ⟨?_, ops[i], by simp [hi], fun e he hbe => ?_⟩
        · have : i < L.size := by omega
          simp [this] at hL ⊢
          exact hL
        · have h1 := List.all_eq_true.1 hb i (List.mem_range.2 hi)
          have h2 : (ops[i]?) = some ops[i] := by simp [hi]
          rw [h2] at h1
          simp only [Option.all_some, Array.all_eq_true] at h1
          obtain ⟨n, hn, hen⟩ := Array.mem_iff_getElem.1 he
          have h3 := h1 n hn
          rw [hen, hbe] at h3
          have h4 : e.on < i := by simpa using h3
          exact ih e.on h4 (by omega)
      rw [hr] at hin
      cases hin

end Go.EV
