import Derived.Test.YtkfkfpgnapncaaaGreatDoorMC
import Derived.Test.YtkfkfpgnapncaaaGreatDoorMD
set_option linter.unusedSimpArgs false
set_option linter.unusedVariables false
/-! Choices and bytes, in plain Lean. -/
namespace Go.SL
open Go
instance : DecidableEq Choice := fun x y =>
  decidable_of_iff (x.kind = y.kind ∧ x.hart = y.hart ∧ x.pick = y.pick) (by cases x; cases y; simp)
def encB (b : UInt8) : List Value := [.int .u8 ((b.toNat : Nat) : Int)]
def kindOf (a : Nat) : Int := [1, 1, 2, 2, 3, 3, 4, 5].getD (a % 8) 0
def chOf (a b : Nat) : Choice := ⟨kindOf a, ((a / 8 % 4 : Nat) : Int), (b : Int)⟩
def byt (l : List UInt8) (i : Nat) : Nat := (l.getD i 0).toNat
def chAt (l : List UInt8) (m : Nat) : Choice := chOf (byt l (2 * m)) (byt l (2 * m + 1))
def chs (l : List UInt8) : List Choice := (List.range ((l.length + 1) / 2)).map (chAt l)
def okC (c : Choice) : Bool := decide (1 ≤ c.kind) && decide (c.kind ≤ 5) && decide (0 ≤ c.hart) && decide (c.hart ≤ 3) && decide (0 ≤ c.pick) && decide (c.pick ≤ 255)
def tblC (k : Int) : Nat := [0, 0, 2, 4, 6, 7].getD k.toNat 0
def byt0 (c : Choice) : UInt8 := UInt8.ofNat (tblC c.kind + 8 * c.hart.toNat)
def byt1 (c : Choice) : UInt8 := UInt8.ofNat c.pick.toNat
def bytC (c : Choice) : List UInt8 := [byt0 c, byt1 c]
def rawC (l : List Choice) : List UInt8 := l.flatMap bytC

theorem byt_lt (l : List UInt8) (i : Nat) : byt l i < 256 := UInt8.toNat_lt _
theorem okC_iff {c : Choice} : okC c = true ↔ 1 ≤ c.kind ∧ c.kind ≤ 5 ∧ 0 ≤ c.hart ∧ c.hart ≤ 3 ∧ 0 ≤ c.pick ∧ c.pick ≤ 255 := by
  simp [okC, and_assoc]
theorem kindOf_ok (a : Nat) : 1 ≤ kindOf a ∧ kindOf a ≤ 5 := by
  have h : ∀ m, m < 8 → 1 ≤ [1, 1, 2, 2, 3, 3, 4, 5].getD m (0 : Int) ∧ [1, 1, 2, 2, 3, 3, 4, 5].getD m (0 : Int) ≤ 5 := by decide
  exact h _ (Nat.mod_lt _ (by decide))
theorem chOf_ok {a b : Nat} (hb : b < 256) : okC (chOf a b) = true := by
  have := kindOf_ok a
  rw [okC_iff]
  simp only [chOf]
  omega
theorem chAt_ok (l : List UInt8) (m : Nat) : okC (chAt l m) = true := chOf_ok (byt_lt _ _)
theorem chs_ok (l : List UInt8) : (chs l).all okC = true := by
  simp [chs, chAt_ok]
theorem u8_of {n : Nat} (h : n < 256) : (UInt8.ofNat n).toNat = n := by
  simp [UInt8.toNat_ofNat, Nat.mod_eq_of_lt h]
theorem tbl_lt {k : Int} (h0 : 1 ≤ k) (h1 : k ≤ 5) : tblC k < 8 := by
  have : k = 1 ∨ k = 2 ∨ k = 3 ∨ k = 4 ∨ k = 5 := by omega
  rcases this with rfl | rfl | rfl | rfl | rfl <;> decide
theorem kind_tbl {k : Int} (h0 : 1 ≤ k) (h1 : k ≤ 5) (m : Nat) : kindOf (tblC k + 8 * m) = k := by
  unfold kindOf
  rw [Nat.add_mul_mod_self_left]
  have : k = 1 ∨ k = 2 ∨ k = 3 ∨ k = 4 ∨ k = 5 := by omega
  rcases this with rfl | rfl | rfl | rfl | rfl <;> decide
theorem byt0_nat {c : Choice} (h : okC c = true) : (byt0 c).toNat = tblC c.kind + 8 * c.hart.toNat := by
  rw [okC_iff] at h
  have := tbl_lt h.1 h.2.1
  exact u8_of (by omega)
theorem byt1_nat {c : Choice} (h : okC c = true) : (byt1 c).toNat = c.pick.toNat := by
  rw [okC_iff] at h
  exact u8_of (by omega)
theorem chOf_byt {c : Choice} (h : okC c = true) : chOf (byt0 c).toNat (byt1 c).toNat = c := by
  rw [byt0_nat h, byt1_nat h]
  have h' := okC_iff.1 h
  have ht := tbl_lt h'.1 h'.2.1
  obtain ⟨k, a, p⟩ := c
  simp only [chOf, Choice.mk.injEq] at *
  refine ⟨kind_tbl h'.1 h'.2.1 _, by omega, by omega⟩
theorem chs_nil : chs [] = [] := rfl
theorem chs_two (a b : UInt8) (l : List UInt8) : chs (a :: b :: l) = chOf a.toNat b.toNat :: chs l := by
  unfold chs
  rw [show ((a :: b :: l).length + 1) / 2 = (l.length + 1) / 2 + 1 by simp; omega, List.range_succ_eq_map, List.map_cons, List.map_map]
  refine congr (congrArg _ ?_) ?_
  · simp [chAt, byt]
  · apply List.map_congr_left
    intro m _
    simp only [Function.comp, chAt, byt, show 2 * (m + 1) = 2 * m + 2 by omega, show 2 * m + 2 + 1 = 2 * m + 1 + 2 by omega]
    simp
theorem chs_raw : ∀ {l : List Choice}, l.all okC = true → chs (rawC l) = l
  | [], _ => rfl
  | c :: l, h => by
    rw [List.all_cons, Bool.and_eq_true] at h
    show chs (byt0 c :: byt1 c :: rawC l) = c :: l
    rw [chs_two, chOf_byt h.1, chs_raw h.2]
theorem rawC_len : ∀ (l : List Choice), (rawC l).length = 2 * l.length
  | [] => rfl
  | c :: l => by show (byt0 c :: byt1 c :: rawC l).length = _; simp [rawC_len l]; omega
theorem chs_len (l : List UInt8) : (chs l).length = (l.length + 1) / 2 := by simp [chs]
theorem rawC_append (l m : List Choice) : rawC (l ++ m) = rawC l ++ rawC m := by simp [rawC]
/-! What the walks meet. -/
def encK (n : Int) : List Value := [.int .i64 n]
/-- Where it is, from n on; -1: nowhere. -/
def ixN (v : Int) : List Int → Nat → Int
  | [], _ => -1
  | x :: r, n => if v = x then (n : Int) else ixN v r (n + 1)
theorem ix_step {v x : Int} {l : List Int} {i : Nat} (hx : l[i]? = some x) (h : ixN v l 0 = ixN v (l.drop i) i) (hne : v ≠ x) : ixN v l 0 = ixN v (l.drop (i + 1)) (i + 1) := by
  obtain ⟨hi, rfl⟩ := List.getElem?_eq_some_iff.1 hx
  rw [h, List.drop_eq_getElem_cons hi, ixN, if_neg hne]
theorem ix_found {v x : Int} {l : List Int} {i : Nat} (hx : l[i]? = some x) (h : ixN v l 0 = ixN v (l.drop i) i) (he : v = x) : ixN v l 0 = (i : Int) := by
  obtain ⟨hi, rfl⟩ := List.getElem?_eq_some_iff.1 hx
  rw [h, List.drop_eq_getElem_cons hi, ixN, if_pos he]
theorem ix_none {v : Int} {l : List Int} {i : Nat} (hi : l.length ≤ i) (h : ixN v l 0 = ixN v (l.drop i) i) : ixN v l 0 = -1 := by
  rw [h, List.drop_eq_nil_of_le hi, ixN]
def chsN (l : List UInt8) (m : Nat) : List Choice := (List.range m).map (chAt l)
theorem chsN_len (l : List UInt8) (m : Nat) : (chsN l m).length = m := by simp [chsN]
theorem chsN_succ (l : List UInt8) (m : Nat) : chsN l m ++ [chAt l m] = chsN l (m + 1) := by simp [chsN, List.range_succ]
theorem chAt_mk {l : List UInt8} {m : Nat} {x y : UInt8} {k : Int} (hx : l[2 * m]? = some x) (hy : l[2 * m + 1]? = some y) (hk : kindOf x.toNat = k) : (⟨k, ((x.toNat / 8 % 4 : Nat) : Int), ((y.toNat : Nat) : Int)⟩ : Choice) = chAt l m := by
  simp [chAt, chOf, byt, hx, hy, hk]
theorem chAt_mk0 {l : List UInt8} {m : Nat} {x : UInt8} {k : Int} (hx : l[2 * m]? = some x) (hy : l.length ≤ 2 * m + 1) (hk : kindOf x.toNat = k) : (⟨k, ((x.toNat / 8 % 4 : Nat) : Int), 0⟩ : Choice) = chAt l m := by
  have e : l[2 * m + 1]? = none := List.getElem?_eq_none hy
  simp [chAt, chOf, byt, hx, hk, e]
theorem kind_mod {a m : Nat} (h : a % 8 = m) : kindOf a = [1, 1, 2, 2, 3, 3, 4, 5].getD m 0 := by rw [← h]; rfl
theorem u8_hart : ∀ x : UInt8, Int.tmod (IntKind.i64.wrap (IntKind.u8.wrap (Int.tdiv ((x.toNat : Nat) : Int) 8))) 4 = ((x.toNat / 8 % 4 : Nat) : Int) := by
  have h : ∀ n : Fin 256, Int.tmod (IntKind.i64.wrap (IntKind.u8.wrap (Int.tdiv ((n.1 : Nat) : Int) 8))) 4 = ((n.1 / 8 % 4 : Nat) : Int) := by decide +kernel
  exact fun x => h ⟨x.toNat, x.toNat_lt⟩
theorem u8_mod8 : ∀ x : UInt8, Int.tmod ((x.toNat : Nat) : Int) 8 = ((x.toNat % 8 : Nat) : Int) := by
  have h : ∀ n : Fin 256, Int.tmod ((n.1 : Nat) : Int) 8 = ((n.1 % 8 : Nat) : Int) := by decide +kernel
  exact fun x => h ⟨x.toNat, x.toNat_lt⟩
theorem u8_i64 (x : UInt8) : IntKind.i64.wrap ((x.toNat : Nat) : Int) = ((x.toNat : Nat) : Int) := by
  have := x.toNat_lt
  exact wrap_i64_of (by omega) (by omega)
theorem nat_add2 {m : Nat} (hm : m ≤ 4096) : Value.int .i64 (IntKind.i64.wrap (((2 * m : Nat) : Int) + 2)) = .int .i64 ((2 * (m + 1) : Nat) : Int) := by
  rw [wrap_i64_of (by omega) (by omega)]
  congr 1
/-! script.Raw, ref19.Raw. -/
def ixK (v : Int) : Int := ixN v [1, 1, 2, 2, 3, 3, 4, 5] 0
theorem ixK_cases (v : Int) : (v = 1 ∧ ixK v = 0) ∨ (v = 2 ∧ ixK v = 2) ∨ (v = 3 ∧ ixK v = 4) ∨ (v = 4 ∧ ixK v = 6) ∨ (v = 5 ∧ ixK v = 7) ∨ ((v < 1 ∨ 5 < v) ∧ ixK v = -1) := by
  unfold ixK
  by_cases h1 : v = 1
  · subst h1; decide
  by_cases h2 : v = 2
  · subst h2; decide
  by_cases h3 : v = 3
  · subst h3; decide
  by_cases h4 : v = 4
  · subst h4; decide
  by_cases h5 : v = 5
  · subst h5; decide
  · simp [ixN, h1, h2, h3, h4, h5]; omega
theorem ok_of {c : Choice} (h1 : ¬ ixK c.kind < 0) (h2 : ¬ c.hart < 0) (h3 : ¬ c.hart ≥ 4) (h4 : ¬ c.pick < 0) (h5 : ¬ c.pick > 255) : okC c = true := by
  have := ixK_cases c.kind
  rw [okC_iff]; omega
theorem ok_of2 {c : Choice} (h0 : ¬ c.kind < 1) (h1 : ¬ c.kind > 5) (h2 : ¬ c.hart < 0) (h3 : ¬ c.hart > 3) (h4 : ¬ c.pick < 0) (h5 : ¬ c.pick > 255) : okC c = true := by
  rw [okC_iff]; omega
theorem ix_nonneg {c : Choice} (h : okC c = true) : ¬ ixK c.kind < 0 := by
  have := ixK_cases c.kind
  rw [okC_iff] at h; omega
theorem raw_b0 {c : Choice} (h : okC c = true) : IntKind.u8.wrap (IntKind.i64.wrap (BitVec.ofInt 64 (ixK c.kind) ||| BitVec.ofInt 64 (IntKind.i64.wrap (c.hart * 2 ^ 3))).toNat) = (((byt0 c).toNat : Nat) : Int) := by
  rw [byt0_nat h]
  obtain ⟨k, a, p⟩ := c
  have h' := okC_iff.1 h
  simp only at h' ⊢
  have hk : k = 1 ∨ k = 2 ∨ k = 3 ∨ k = 4 ∨ k = 5 := by omega
  have ha : a = 0 ∨ a = 1 ∨ a = 2 ∨ a = 3 := by omega
  rcases hk with rfl | rfl | rfl | rfl | rfl <;> rcases ha with rfl | rfl | rfl | rfl <;> decide
theorem raw_b1 {c : Choice} (h : okC c = true) : IntKind.u8.wrap c.pick = (((byt1 c).toNat : Nat) : Int) := by
  rw [byt1_nat h]
  have h' := okC_iff.1 h
  rw [wrap_u8_of (by omega) (by omega)]; omega
theorem rraw_b0 {c : Choice} (h : okC c = true) : IntKind.u8.wrap (((tblC c.kind : Nat) : Int) + (IntKind.u8.wrap (IntKind.i64.wrap (8 * c.hart)))) = (((byt0 c).toNat : Nat) : Int) := by
  rw [byt0_nat h]
  have h' := okC_iff.1 h
  have := tbl_lt h'.1 h'.2.1
  rw [wrap_i64_of (by omega) (by omega), wrap_u8_of (n := 8 * c.hart) (by omega) (by omega), wrap_u8_of (by omega) (by omega)]
  omega
theorem tbl_ld {k : Int} (h0 : 1 ≤ k) (h1 : k ≤ 5) : ldP TY 5 #[.int .u8 0, .int .u8 0, .int .u8 2, .int .u8 4, .int .u8 6, .int .u8 7] (0 + k.toNat * 1) = some (.int .u8 ((tblC k : Nat) : Int)) := by
  have : k = 1 ∨ k = 2 ∨ k = 3 ∨ k = 4 ∨ k = 5 := by omega
  rcases this with rfl | rfl | rfl | rfl | rfl <;> (show _ = _; rfl)
theorem rawC_take {l : List Choice} {i : Nat} {x : Choice} (hx : l[i]? = some x) : rawC (l.take i) ++ bytC x = rawC (l.take (i + 1)) := by
  rw [List.take_add_one, hx, rawC_append]; simp [rawC]
theorem rawT_len {l : List Choice} {i : Nat} (hi : i ≤ l.length) : (rawC (l.take i)).length = 2 * i := by
  rw [rawC_len, List.length_take, Nat.min_eq_left hi]
theorem all_take {l : List Choice} {i : Nat} {x : Choice} (h : (l.take i).all okC = true) (hx : l[i]? = some x) (hk : okC x = true) : (l.take (i + 1)).all okC = true := by
  rw [List.take_add_one, hx, List.all_append, h]; simp [hk]
theorem not_all {l : List Choice} {i : Nat} {x : Choice} (hx : l[i]? = some x) (hk : okC x = false) : l.all okC = false := by
  rw [List.all_eq_false]
  exact ⟨x, List.mem_of_getElem? hx, by simp [hk]⟩
theorem nn0 {e : Int} (h : 0 ≤ e) : e = ((e.toNat : Nat) : Int) := by omega
theorem nat_dbl {n : Nat} (hn : n ≤ 4096) : Value.int .i64 (IntKind.i64.wrap (2 * ((n : Nat) : Int))) = .int .i64 ((2 * n : Nat) : Int) := by
  rw [wrap_i64_of (by omega) (by omega)]
  congr 1
/-- The bytes, or none; the error. -/
def rawR (l : List Choice) : List UInt8 := if l.all okC = true then rawC l else []
def errR (l : List Choice) : Int := if l.all okC = true then 0 else 2
theorem raw_yes {l : List Choice} (h : l.all okC = true) : rawR l = rawC l ∧ errR l = 0 := by simp only [rawR, errR, h, if_true, and_self]
theorem raw_no {l : List Choice} (h : l.all okC = false) : rawR l = [] ∧ errR l = 2 := by simp [rawR, errR, h]
end Go.SL
