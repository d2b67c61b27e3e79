import Derived.Test.YtkfkfpgnapncaaaGreatDoorMC
set_option linter.unusedSimpArgs false
set_option linter.unusedVariables false
/-! A walk that is computed: values up to the places of blocks. -/
noncomputable section
namespace Go.EV
open Go Go.RowKit Go.SL

/-! ### Rows by numbers -/
inductive Tri (α : Type) where
  | leaf
  | node (v : Option α) (l r : Tri α)
namespace Tri
variable {α : Type}
/-- By the recursor itself: that is what the kernel runs fastest. -/
def get (t : Tri α) : Nat → Option α :=
  Tri.rec (motive := fun _ => Nat → Option α) (fun _ => none)
    (fun v _ _ ihl ihr k => Nat.rec (motive := fun _ => Option α) v (fun k' _ => Nat.rec (motive := fun _ => Option α) (ihl (k' / 2)) (fun _ _ => ihr (k' / 2)) (k' % 2)) k) t
def mk (n : Nat) : Nat → Option α → Tri α :=
  Nat.rec (motive := fun _ => Nat → Option α → Tri α) (fun _ _ => .leaf)
    (fun _ ih k x => Nat.rec (motive := fun _ => Tri α) (.node x .leaf .leaf) (fun k' _ => Nat.rec (motive := fun _ => Tri α) (.node none (ih (k' / 2) x) .leaf) (fun _ _ => .node none .leaf (ih (k' / 2) x)) (k' % 2)) k) n
/-- Keys below 2^30 are written. -/
def set (t : Tri α) : Nat → Option α → Tri α :=
  Tri.rec (motive := fun _ => Nat → Option α → Tri α) (mk 40)
    (fun v l r ihl ihr k x => Nat.rec (motive := fun _ => Tri α) (.node x l r) (fun k' _ => Nat.rec (motive := fun _ => Tri α) (.node v (ihl (k' / 2) x) r) (fun _ _ => .node v l (ihr (k' / 2) x)) (k' % 2)) k) t
def fits (k : Nat) : Bool := Nat.blt k 1073741824

theorem get_leaf (k : Nat) : (Tri.leaf : Tri α).get k = none := rfl
theorem get_zero (v : Option α) (l r : Tri α) : (Tri.node v l r).get 0 = v := rfl
theorem mod2 (k : Nat) : k % 2 = 0 ∨ k % 2 = 1 := by omega
theorem get_node (v : Option α) (l r : Tri α) (k' : Nat) : (Tri.node v l r).get (k' + 1) = if k' % 2 = 0 then l.get (k' / 2) else r.get (k' / 2) := by
  have e : (Tri.node v l r).get (k' + 1) = Nat.rec (motive := fun _ => Option α) (l.get (k' / 2)) (fun _ _ => r.get (k' / 2)) (k' % 2) := rfl
  rw [e]
  rcases mod2 k' with h | h
  · rw [h]; exact (if_pos rfl).symm
  · rw [h]; exact (if_neg (by omega)).symm
theorem mk_succ (n k' : Nat) (x : Option α) : mk (n + 1) (k' + 1) x = if k' % 2 = 0 then .node none (mk n (k' / 2) x) .leaf else .node none .leaf (mk n (k' / 2) x) := by
  have e : mk (n + 1) (k' + 1) x = Nat.rec (motive := fun _ => Tri α) (.node none (mk n (k' / 2) x) .leaf) (fun _ _ => .node none .leaf (mk n (k' / 2) x)) (k' % 2) := rfl
  rw [e]
  rcases mod2 k' with h | h
  · rw [h]; exact (if_pos rfl).symm
  · rw [h]; exact (if_neg (by omega)).symm
theorem set_succ (v : Option α) (l r : Tri α) (k' : Nat) (x : Option α) : (Tri.node v l r).set (k' + 1) x = if k' % 2 = 0 then .node v (l.set (k' / 2) x) r else .node v l (r.set (k' / 2) x) := by
  have e : (Tri.node v l r).set (k' + 1) x = Nat.rec (motive := fun _ => Tri α) (.node v (l.set (k' / 2) x) r) (fun _ _ => .node v l (r.set (k' / 2) x)) (k' % 2) := rfl
  rw [e]
  rcases mod2 k' with h | h
  · rw [h]; exact (if_pos rfl).symm
  · rw [h]; exact (if_neg (by omega)).symm
theorem get_mk : ∀ (n k j : Nat) (x : Option α), k < 2 ^ n → (mk (n + 1) k x).get j = if j = k then x else none
  | n, 0, j, x, _ => by
    show (Tri.node x .leaf .leaf).get j = _
    cases j with
    | zero => rfl
    | succ j =>
      rw [get_node, get_leaf, if_neg (show ¬ (j + 1 = 0) by omega)]
      split <;> rfl
  | 0, k + 1, j, x, h => by simp at h
  | n + 1, k + 1, j, x, h => by
    have hk : k / 2 < 2 ^ n := by rw [Nat.pow_succ] at h; omega
    rw [mk_succ]
    by_cases h0 : k % 2 = 0
    · rw [if_pos h0]
      cases j with
      | zero => rw [if_neg (by omega)]; rfl
      | succ j =>
        rw [get_node]
        by_cases hj : j % 2 = 0
        · rw [if_pos hj, get_mk n (k / 2) (j / 2) x hk]
          by_cases e : j / 2 = k / 2
          · rw [if_pos e, if_pos (by omega)]
          · rw [if_neg e, if_neg (by omega)]
        · rw [if_neg hj, if_neg (by omega)]; rfl
    · rw [if_neg h0]
      cases j with
      | zero => rw [if_neg (by omega)]; rfl
      | succ j =>
        rw [get_node]
        by_cases hj : j % 2 = 0
        · rw [if_pos hj, if_neg (by omega)]; rfl
        · rw [if_neg hj, get_mk n (k / 2) (j / 2) x hk]
          by_cases e : j / 2 = k / 2
          · rw [if_pos e, if_pos (by omega)]
          · rw [if_neg e, if_neg (by omega)]
theorem get_set_lt : ∀ (t : Tri α) (k j : Nat) (x : Option α), k < 2 ^ 39 → (t.set k x).get j = if j = k then x else t.get j
  | .leaf, k, j, x, hk => get_mk 39 k j x hk
  | .node v l r, 0, j, x, _ => by
    show (Tri.node x l r).get j = _
    cases j with
    | zero => rfl
    | succ j => rw [if_neg (by omega), get_node, get_node]
  | .node v l r, k + 1, j, x, hk => by
    have hk2 : k / 2 < 2 ^ 39 := by omega
    rw [set_succ]
    by_cases h0 : k % 2 = 0
    · rw [if_pos h0]
      cases j with
      | zero => rw [if_neg (by omega)]; rfl
      | succ j =>
        rw [get_node, get_node]
        by_cases hj : j % 2 = 0
        · rw [if_pos hj, if_pos hj, get_set_lt l (k / 2) (j / 2) x hk2]
          by_cases e : j / 2 = k / 2
          · rw [if_pos e, if_pos (by omega)]
          · rw [if_neg e, if_neg (by omega)]
        · rw [if_neg hj, if_neg hj, if_neg (by omega)]
    · rw [if_neg h0]
      cases j with
      | zero => rw [if_neg (by omega)]; rfl
      | succ j =>
        rw [get_node, get_node]
        by_cases hj : j % 2 = 0
        · rw [if_pos hj, if_pos hj, if_neg (by omega)]
        · rw [if_neg hj, if_neg hj, get_set_lt r (k / 2) (j / 2) x hk2]
          by_cases e : j / 2 = k / 2
          · rw [if_pos e, if_pos (by omega)]
          · rw [if_neg e, if_neg (by omega)]
theorem get_set {t : Tri α} {k j : Nat} {x : Option α} (h : fits k = true) : (t.set k x).get j = if j = k then x else t.get j := by
  refine get_set_lt t k j x ?_
  have : k < 1073741824 := Nat.lt_of_succ_le (Nat.le_of_ble_eq_true h)
  calc k < 1073741824 := this
    _ ≤ 2 ^ 39 := by decide
end Tri

/-! ### Values, up to the places of blocks -/
/-- Where a block of the computed walk really is; how many elements it has at most. -/
abbrev Ren := Nat → Option (Nat × Nat)
def Ren.le (ρ ρ' : Ren) : Prop := ∀ i p, ρ i = some p → ρ' i = some p
theorem Ren.le.refl (ρ : Ren) : Ren.le ρ ρ := fun _ _ h => h
theorem Ren.le.trans {ρ₁ ρ₂ ρ₃ : Ren} (h : Ren.le ρ₁ ρ₂) (h' : Ren.le ρ₂ ρ₃) : Ren.le ρ₁ ρ₃ := fun i p hp => h' i p (h i p hp)

/-- From here on capacities say: all that the block has, but so many. -/
def UU : Nat := 1152921504606846976

/-- A capacity of the walk, of a block that has C elements at most. -/
def CapR (C c c' : Nat) : Prop := (c < UU ∧ c' = c) ∨ (UU ≤ c ∧ c' + (c - UU) = C)

/-- The number that stands for wherever a slice of nothing is. -/
def EE : Nat := 1125899906842624

inductive FnR (ρ : Ren) : Fn → Fn → Prop
  | func (f : FuncId) : FnR ρ (.func f) (.func f)
  | yield {i b C : Nat} (h : ρ i = some (b, C)) : FnR ρ (.yield i) (.yield b)

inductive VR (ρ : Ren) : Value → Value → Prop
  | bool (b : Bool) : VR ρ (.bool b) (.bool b)
  | int (k : IntKind) (n : Int) : VR ρ (.int k n) (.int k n)
  | str (s : ByteArray) : VR ρ (.string s) (.string s)
  | ptr0 : VR ρ (.pointer none) (.pointer none)
  | ptr {i b C off : Nat} (h : ρ i = some (b, C)) : VR ρ (.pointer (some ⟨i, off, none⟩)) (.pointer (some ⟨b, off, none⟩))
  | sl0 (n c : Nat) : VR ρ (.slice none n c) (.slice none n c)
  | sl {i b C off n c c' : Nat} (h : ρ i = some (b, C)) (hc : CapR C c c') (hn : n ≤ c') : VR ρ (.slice (some ⟨i, off, none⟩) n c) (.slice (some ⟨b, off, none⟩) n c')
  | sle (a : Addr) (c' : Nat) : VR ρ (.slice (some ⟨EE, 0, none⟩) 0 0) (.slice (some a) 0 c')
  | map0 : VR ρ (.map none) (.map none)
  | map {i b C : Nat} (h : ρ i = some (b, C)) : VR ρ (.map (some i)) (.map (some b))
  | fn {f g : Fn} {fs cs fs' cs' : Array Value} (h : FnR ρ f g) (h1 : fs.size = fs'.size) (h2 : ∀ (i : Nat) (x x' : Value), fs[i]? = some x → fs'[i]? = some x' → VR ρ x x')
      (h3 : cs.size = cs'.size) (h4 : ∀ (i : Nat) (x x' : Value), cs[i]? = some x → cs'[i]? = some x' → VR ρ x x') : VR ρ (.func f fs cs) (.func g fs' cs')
  | nilF : VR ρ .nilFunc .nilFunc
  | iface (t : TypeId) {v v' : Value} (h : VR ρ v v') : VR ρ (.iface t v) (.iface t v')
  | nilI : VR ρ .nilIface .nilIface
  | agg {cs cs' : Array Value} (h1 : cs.size = cs'.size) (h2 : ∀ (i : Nat) (x x' : Value), cs[i]? = some x → cs'[i]? = some x' → VR ρ x x') : VR ρ (.agg cs) (.agg cs')
  | tup {cs cs' : Array Value} (h1 : cs.size = cs'.size) (h2 : ∀ (i : Nat) (x x' : Value), cs[i]? = some x → cs'[i]? = some x' → VR ρ x x') : VR ρ (.tuple cs) (.tuple cs')

/-- Rows of values. -/
def AR (ρ : Ren) (cs cs' : Array Value) : Prop := cs.size = cs'.size ∧ ∀ (i : Nat) (x x' : Value), cs[i]? = some x → cs'[i]? = some x' → VR ρ x x'

theorem FnR.mono {ρ ρ' : Ren} (h : Ren.le ρ ρ') {f g : Fn} (hf : FnR ρ f g) : FnR ρ' f g := by
  cases hf with
  | func f => exact .func f
  | yield hi => exact .yield (h _ _ hi)
theorem VR.mono {ρ ρ' : Ren} (h : Ren.le ρ ρ') {v v' : Value} (hv : VR ρ v v') : VR ρ' v v' := by
  induction hv with
  | bool b => exact .bool b
  | int k n => exact .int k n
  | str s => exact .str s
  | ptr0 => exact .ptr0
  | ptr hi => exact .ptr (h _ _ hi)
  | sl0 n c => exact .sl0 n c
  | sl hi hc hn => exact .sl (h _ _ hi) hc hn
  | sle a c' => exact .sle a c'
  | map0 => exact .map0
  | map hi => exact .map (h _ _ hi)
  | fn hf h1 _ h3 _ ih1 ih2 => exact .fn (hf.mono h) h1 (fun i x x' a b => ih1 i x x' a b) h3 (fun i x x' a b => ih2 i x x' a b)
  | nilF => exact .nilF
  | iface t _ ih => exact .iface t ih
  | nilI => exact .nilI
  | agg h1 _ ih => exact .agg h1 (fun i x x' a b => ih i x x' a b)
  | tup h1 _ ih => exact .tup h1 (fun i x x' a b => ih i x x' a b)
theorem AR.mono {ρ ρ' : Ren} (h : Ren.le ρ ρ') {cs cs' : Array Value} (hv : AR ρ cs cs') : AR ρ' cs cs' := ⟨hv.1, fun i x x' a b => (hv.2 i x x' a b).mono h⟩

variable {ρ : Ren}
theorem AR.at {cs cs' : Array Value} (h : AR ρ cs cs') {i : Nat} {x : Value} (hx : cs[i]? = some x) : ∃ x', cs'[i]? = some x' ∧ VR ρ x x' := by
  have hlt : i < cs.size := (Array.getElem?_eq_some_iff.1 hx).1
  have hlt' : i < cs'.size := h.1 ▸ hlt
  exact ⟨cs'[i], by simp [hlt'], h.2 i x _ hx (by simp [hlt'])⟩
theorem AR.nil : AR ρ #[] #[] := ⟨rfl, fun i x x' h => by simp at h⟩
theorem AR.append {a a' b b' : Array Value} (h : AR ρ a a') (h' : AR ρ b b') : AR ρ (a ++ b) (a' ++ b') := by
  refine ⟨by simp [h.1, h'.1], fun i x x' hx hx' => ?_⟩
  rw [Array.getElem?_append] at hx hx'
  rw [← h.1] at hx'
  split at hx
  · rename_i hi; rw [if_pos hi] at hx'; exact h.2 i x x' hx hx'
  · rename_i hi; rw [if_neg hi] at hx'; exact h'.2 _ x x' hx hx'
theorem AR.extract {a a' : Array Value} (h : AR ρ a a') (s e : Nat) : AR ρ (a.extract s e) (a'.extract s e) := by
  refine ⟨by simp [h.1], fun i x x' hx hx' => ?_⟩
  rw [Array.getElem?_extract] at hx hx'
  split at hx
  · split at hx'
    · exact h.2 _ x x' hx hx'
    · simp at hx'
  · simp at hx
theorem AR.set {a a' : Array Value} (h : AR ρ a a') {v v' : Value} (hv : VR ρ v v') (k : Nat) : AR ρ (a.setIfInBounds k v) (a'.setIfInBounds k v') := by
  refine ⟨by simp [h.1], fun i x x' hx hx' => ?_⟩
  rw [Array.getElem?_setIfInBounds] at hx hx'
  rw [← h.1] at hx'
  split at hx
  · rename_i hi; rw [if_pos hi] at hx'; split at hx
    · rename_i hs; rw [if_pos hs] at hx'; simp only [Option.some.injEq] at hx hx'; subst hx; subst hx'; exact hv
    · simp at hx
  · rename_i hi; rw [if_neg hi] at hx'; exact h.2 i x x' hx hx'
theorem VR.cells {v v' : Value} (h : VR ρ v v') : AR ρ v.cells v'.cells := by
  have one : ∀ {v v' : Value}, VR ρ v v' → AR ρ #[v] #[v'] := fun {v v'} h => ⟨rfl, fun i x x' a b => by
    cases i with
    | zero => simp at a b; subst a; subst b; exact h
    | succ i => simp at a⟩
  cases h with
  | agg h1 h2 => exact ⟨h1, h2⟩
  | _ => exact one (by first | assumption | (constructor <;> assumption))
end Go.EV
