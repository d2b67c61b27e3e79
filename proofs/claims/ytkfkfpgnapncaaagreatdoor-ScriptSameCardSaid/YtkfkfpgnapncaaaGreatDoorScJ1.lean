import Derived.Test.YtkfkfpgnapncaaaGreatDoorScE
set_option linter.unusedSimpArgs false
set_option linter.unusedVariables false
namespace Go.SL
open Go Go.RowKit Go.Proofs
open Go.EV (AggOK eqA spA)
set_option maxRecDepth 100000
set_option linter.unusedVariables false
set_option linter.unusedSimpArgs false

def mB (b : Bool) (r : Option Bool) : Option Bool := match b with | true => r | false => some false
def mO (o : Option Bool) (r : Option Bool) : Option Bool := match o with | some true => r | some false => some false | none => none
theorem mB_some (b c : Bool) : mB b (some c) = some (b && c) := by cases b <;> rfl
theorem mO_some (b c : Bool) : mO (some b) (some c) = some (b && c) := by cases b <;> rfl
theorem mB_true (r : Option Bool) : mB true r = r := rfl
theorem mO_true (r : Option Bool) : mO (some true) r = r := rfl
theorem aggS2 : AggOK Tryz.prog [39, 177, 1000020, 73, 85, 69, 64, 66, 71] := by
  refine ⟨fun t ht hc => ?_, fun t hc => ?_⟩
  · have : t = 39 ∨ t = 177 ∨ t = 1000020 ∨ t = 73 ∨ t = 85 ∨ t = 69 ∨ t = 64 ∨ t = 66 ∨ t = 71 := by simpa using hc
    rcases this with rfl | rfl | rfl | rfl | rfl | rfl | rfl | rfl | rfl
    · exact ⟨by kernel_rfl, by kernel_rfl⟩
    · exact ⟨by kernel_rfl, by kernel_rfl⟩
    · cases ht
    all_goals exact ⟨by kernel_rfl, by kernel_rfl⟩
  · have : t + 1000000 = 39 ∨ t + 1000000 = 177 ∨ t + 1000000 = 1000020 ∨ t + 1000000 = 73 ∨ t + 1000000 = 85 ∨ t + 1000000 = 69 ∨ t + 1000000 = 64 ∨ t + 1000000 = 66 ∨ t + 1000000 = 71 := by simpa using hc
    rcases this with e | e | e | e | e | e | e | e | e
    · omega
    · omega
    · obtain rfl : t = 20 := by omega
      exact ⟨_, Tryz.underlying20⟩
    all_goals omega
def didB (x y : Did) : Bool := (eqA TY [39, 177, 1000020, 73, 85, 69, 64, 66, 71] 10 73 (.agg (encDid x).toArray) (.agg (encDid y).toArray)).getD false
theorem did_ch (x y : Did) : eqA TY [39, 177, 1000020, 73, 85, 69, 64, 66, 71] 10 73 (.agg (encDid x).toArray) (.agg (encDid y).toArray) = mB (x.kind == y.kind) (mB (x.hart == y.hart) (mO (mB (x.commit.pc == y.commit.pc) (mB (x.commit.word == y.commit.word) (mO (mB (x.commit.access.kind == y.commit.access.kind) (mB (x.commit.access.addr == y.commit.access.addr) (mB (x.commit.access.width == y.commit.access.width) (mB (x.commit.access.value == y.commit.access.value) (mB (x.commit.access.op == y.commit.access.op) (mB (x.commit.access.aq == y.commit.access.aq) (mB (x.commit.access.rl == y.commit.access.rl) (some true)))))))) (mO (mB (x.commit.answer.value == y.commit.answer.value) (mB (x.commit.answer.ok == y.commit.answer.ok) (some true))) (mB (x.commit.rd == y.commit.rd) (mB (x.commit.value == y.commit.value) (mB (x.commit.cause == y.commit.cause) (some true)))))))) (mO (mB (x.store.addr == y.store.addr) (mB (x.store.width == y.store.width) (mB (x.store.value == y.store.value) (some true)))) (mB (x.own == y.own) (some true))))) := by kernel_rfl
theorem did_q (x y : Did) : eqA TY [39, 177, 1000020, 73, 85, 69, 64, 66, 71] 10 73 (.agg (encDid x).toArray) (.agg (encDid y).toArray) = some (didB x y) := by
  unfold didB
  rw [did_ch]
  simp only [mB_some, mO_some]
  rfl
theorem did_self (x : Did) : didB x x = true := by
  unfold didB
  rw [did_ch]
  simp only [beq_self_eq_true, mB_true, mO_true]
  rfl
def hartB (x y : Hart) : Bool := (eqA TY [39, 177, 1000020, 73, 85, 69, 64, 66, 71] 10 85 (.agg (encHart x).toArray) (.agg (encHart y).toArray)).getD false
theorem hart_ch (x y : Hart) : eqA TY [39, 177, 1000020, 73, 85, 69, 64, 66, 71] 10 85 (.agg (encHart x).toArray) (.agg (encHart y).toArray) = mB (x.id == y.id) (mB (x.pc == y.pc) (mO (mB (x.regs 0 == y.regs 0) (mB (x.regs 1 == y.regs 1) (mB (x.regs 2 == y.regs 2) (mB (x.regs 3 == y.regs 3) (mB (x.regs 4 == y.regs 4) (mB (x.regs 5 == y.regs 5) (mB (x.regs 6 == y.regs 6) (mB (x.regs 7 == y.regs 7) (mB (x.regs 8 == y.regs 8) (mB (x.regs 9 == y.regs 9) (mB (x.regs 10 == y.regs 10) (mB (x.regs 11 == y.regs 11) (mB (x.regs 12 == y.regs 12) (mB (x.regs 13 == y.regs 13) (mB (x.regs 14 == y.regs 14) (mB (x.regs 15 == y.regs 15) (mB (x.regs 16 == y.regs 16) (mB (x.regs 17 == y.regs 17) (mB (x.regs 18 == y.regs 18) (mB (x.regs 19 == y.regs 19) (mB (x.regs 20 == y.regs 20) (mB (x.regs 21 == y.regs 21) (mB (x.regs 22 == y.regs 22) (mB (x.regs 23 == y.regs 23) (mB (x.regs 24 == y.regs 24) (mB (x.regs 25 == y.regs 25) (mB (x.regs 26 == y.regs 26) (mB (x.regs 27 == y.regs 27) (mB (x.regs 28 == y.regs 28) (mB (x.regs 29 == y.regs 29) (mB (x.regs 30 == y.regs 30) (mB (x.regs 31 == y.regs 31) (some true))))))))))))))))))))))))))))))))) (mB (x.cause == y.cause) (some true)))) := by kernel_rfl
theorem hart_q (x y : Hart) : eqA TY [39, 177, 1000020, 73, 85, 69, 64, 66, 71] 10 85 (.agg (encHart x).toArray) (.agg (encHart y).toArray) = some (hartB x y) := by
  unfold hartB
  rw [hart_ch]
  simp only [mB_some, mO_some]
  rfl
theorem hart_self (x : Hart) : hartB x x = true := by
  unfold hartB
  rw [hart_ch]
  simp only [beq_self_eq_true, mB_true, mO_true]
  rfl
/-- Are two lists the same, by 'f' on each? -/
def leq {α : Type} (f : α → α → Bool) : List α → List α → Bool
  | [], [] => true
  | x :: l, y :: m => f x y && leq f l m
  | _, _ => false
theorem leq_self {α : Type} {f : α → α → Bool} (h : ∀ x, f x x = true) : ∀ l, leq f l l = true
  | [] => rfl
  | x :: l => by rw [leq, h, leq_self h l]; rfl
theorem leq_len {α : Type} {f : α → α → Bool} : ∀ {l m : List α}, l.length ≠ m.length → leq f l m = false
  | [], [], h => absurd rfl h
  | x :: l, y :: m, h => by rw [leq, leq_len (l := l) (m := m) (by simpa using h), Bool.and_false]
  | [], _ :: _, _ => rfl
  | _ :: _, [], _ => rfl
theorem leq_yes {α : Type} {f : α → α → Bool} {l m : List α} {i : Nat} {x y : α} (hx : l[i]? = some x) (hy : m[i]? = some y) (h : leq f l m = leq f (l.drop i) (m.drop i)) (hf : f x y = true) : leq f l m = leq f (l.drop (i + 1)) (m.drop (i + 1)) := by
  obtain ⟨hi, rfl⟩ := List.getElem?_eq_some_iff.1 hx
  obtain ⟨hj, rfl⟩ := List.getElem?_eq_some_iff.1 hy
  rw [h, List.drop_eq_getElem_cons hi, List.drop_eq_getElem_cons hj, leq, hf, Bool.true_and]
theorem leq_no {α : Type} {f : α → α → Bool} {l m : List α} {i : Nat} {x y : α} (hx : l[i]? = some x) (hy : m[i]? = some y) (h : leq f l m = leq f (l.drop i) (m.drop i)) (hf : f x y = false) : leq f l m = false := by
  obtain ⟨hi, rfl⟩ := List.getElem?_eq_some_iff.1 hx
  obtain ⟨hj, rfl⟩ := List.getElem?_eq_some_iff.1 hy
  rw [h, List.drop_eq_getElem_cons hi, List.drop_eq_getElem_cons hj, leq, hf, Bool.false_and]
theorem leq_end {α : Type} {f : α → α → Bool} {l m : List α} {i : Nat} (hi : l.length ≤ i) (hl : l.length = m.length) (h : leq f l m = leq f (l.drop i) (m.drop i)) : leq f l m = true := by
  rw [h, List.drop_eq_nil_of_le hi, List.drop_eq_nil_of_le (by omega), leq]
def bytB (x y : UInt8) : Bool := ((x.toNat : Nat) : Int) == ((y.toNat : Nat) : Int)
theorem bytB_self (x : UInt8) : bytB x x = true := by simp [bytB]
theorem bytB_iff (x y : UInt8) : bytB x y = decide (x = y) := by
  unfold bytB
  by_cases h : x = y
  · subst h; simp
  · have : x.toNat ≠ y.toNat := fun e => h (UInt8.toNat_inj.1 e)
    simp [h]; omega
theorem leq_byt : ∀ l m : List UInt8, leq bytB l m = decide (l = m)
  | [], [] => rfl
  | x :: l, y :: m => by
    rw [leq, bytB_iff, leq_byt l m]
    by_cases h1 : x = y <;> by_cases h2 : l = m <;> simp [h1, h2]
  | [], _ :: _ => by simp [leq]
  | _ :: _, [] => by simp [leq]
end Go.SL