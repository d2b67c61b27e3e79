import Derived.WalkKit
import Derived.OrdersHeld
import Derived.Deep.MidRow
import Derived.OrdersIn
import Derived.ControlIn
import Derived.Sort.LoopGhostIn
import Derived.RangeFuncIn
import Derived.KernelRfl
set_option linter.unusedSimpArgs false
set_option linter.unusedVariables false
/-! Separation by lists of blocks: what a world holds, block by block, in segments. -/
namespace Go.SL
open Go Go.RowKit

abbrev HL := List (Nat × Obj)

/-- The world 'w' stands behind 'z' (same outside world, same tape, no smaller heap), and holds the blocks of 'ss', all of them different. -/
structure Own (z w : World) (ss : List HL) : Prop where
  os : w.os = z.os
  tape : w.tape = z.tape
  output : w.output = z.output
  size : z.heap.size ≤ w.heap.size
  nd : (ss.flatten.map (·.1)).Nodup
  at_ : ∀ p ∈ ss.flatten, w.heap[p.1]? = some p.2

theorem mem_flatten_of_get {ss : List HL} {i : Nat} {s : HL} (h : ss[i]? = some s) {p : Nat × Obj} (hp : p ∈ s) : p ∈ ss.flatten :=
  List.mem_flatten.2 ⟨s, List.mem_of_getElem? h, hp⟩

theorem Own.get {z w : World} {ss : List HL} (h : Own z w ss) (i : Nat) {s : HL} (hi : ss[i]? = some s) {p : Nat × Obj} (hp : p ∈ s) : w.heap[p.1]? = some p.2 :=
  h.at_ p (mem_flatten_of_get hi hp)

theorem Own.blk {z w : World} {ss : List HL} (h : Own z w ss) (i : Nat) {b : Nat} {o : Obj} (hi : ss[i]? = some [(b, o)]) : w.heap[b]? = some o :=
  h.get i hi (p := (b, o)) (by simp)

theorem Own.conv {z w : World} {ss tt : List HL} (h : Own z w ss) (hs : tt.flatten = ss.flatten) : Own z w tt :=
  ⟨h.os, h.tape, h.output, h.size, by rw [hs]; exact h.nd, by rw [hs]; exact h.at_⟩

theorem Own.perm {z w : World} {ss tt : List HL} (h : Own z w ss) (hs : ss.Perm tt) : Own z w tt :=
  ⟨h.os, h.tape, h.output, h.size, ((hs.flatten).map (·.1)).nodup_iff.1 h.nd, fun p hp => h.at_ p (hs.flatten.mem_iff.2 hp)⟩

theorem Own.left {z w : World} {ss tt : List HL} (h : Own z w (ss ++ tt)) : Own z w ss :=
  ⟨h.os, h.tape, h.output, h.size, by have := h.nd; rw [List.flatten_append, List.map_append] at this; exact (List.nodup_append.1 this).1,
    fun p hp => h.at_ p (by rw [List.flatten_append]; exact List.mem_append_left _ hp)⟩

theorem Own.take {z w : World} {ss : List HL} (k : Nat) (h : Own z w ss) : Own z w (ss.take k) := by
  rw [← List.take_append_drop k ss] at h
  exact h.left

/-- Picked by numbers. -/
def pick (ss : List HL) (idx : List Nat) : List HL := idx.map fun i => ss.getD i []

theorem pick_range (ss : List HL) : pick ss (List.range ss.length) = ss := by
  apply List.ext_getElem?
  intro i
  unfold pick
  by_cases h : i < ss.length
  · simp [h]
  · simp [h]

theorem Own.pick {z w : World} {ss : List HL} (idx : List Nat) (hi : idx.isPerm (List.range ss.length) = true) (h : Own z w ss) : Own z w (pick ss idx) := by
  have hp : (SL.pick ss idx).Perm ss := by
    have := (List.isPerm_iff.1 hi).map (fun i => ss.getD i [])
    have e := pick_range ss
    unfold SL.pick at *
    rw [e] at this
    exact this
  exact h.perm hp.symm

/-- The last segments as one. -/
theorem Own.shut {z w : World} {ss tt : List HL} (h : Own z w (ss ++ tt)) : Own z w (ss ++ [tt.flatten]) :=
  h.conv (by simp)
theorem Own.open_ {z w : World} {ss tt : List HL} (h : Own z w (ss ++ [tt.flatten])) : Own z w (ss ++ tt) :=
  h.conv (by simp)

theorem Own.drew {z w : World} {ss : List HL} (h : Own z w ss) : Own z w.drew ss := ⟨h.os, h.tape, h.output, h.size, h.nd, h.at_⟩

theorem Own.alloc {z w : World} {ss : List HL} (h : Own z w ss) (o : Obj) : Own z { w with heap := w.heap.push o } (ss ++ [[(w.heap.size, o)]]) := by
  have hlt : ∀ p ∈ ss.flatten, p.1 < w.heap.size := fun p hp => (Array.getElem?_eq_some_iff.1 (h.at_ p hp)).1
  refine ⟨h.os, h.tape, h.output, by simp; exact Nat.le_succ_of_le h.size, ?_, ?_⟩
  · simp only [List.flatten_append, List.map_append, List.flatten_cons, List.flatten_nil, List.append_nil, List.map_cons, List.map_nil]
    rw [List.nodup_append]
    refine ⟨h.nd, by simp, ?_⟩
    intro a ha b hb hab
    simp only [List.mem_singleton] at hb
    obtain ⟨p, hp, rfl⟩ := List.mem_map.1 ha
    have := hlt p hp
    omega
  · intro p hp
    simp only [List.flatten_append, List.mem_append, List.flatten_cons, List.flatten_nil, List.append_nil, List.mem_singleton] at hp
    rcases hp with hp | rfl
    · have := hlt p hp
      show (w.heap.push o)[p.1]? = some p.2
      rw [Array.getElem?_push, if_neg (by omega)]
      exact h.at_ p hp
    · show (w.heap.push o)[w.heap.size]? = some o
      simp

theorem flatten_set_split {ss : List HL} {i : Nat} {s : HL} (h : ss[i]? = some s) (s' : HL) :
    ss.flatten = (ss.take i).flatten ++ (s ++ (ss.drop (i + 1)).flatten) ∧ (ss.set i s').flatten = (ss.take i).flatten ++ (s' ++ (ss.drop (i + 1)).flatten) := by
  have hlt : i < ss.length := (List.getElem?_eq_some_iff.1 h).1
  have he : ss[i] = s := (List.getElem?_eq_some_iff.1 h).2
  constructor
  · conv => lhs; rw [← List.take_append_drop i ss, List.flatten_append, List.drop_eq_getElem_cons hlt, List.flatten_cons, he]
  · rw [List.set_eq_take_append_cons_drop, if_pos hlt]
    simp

theorem Own.put {z w : World} {ss : List HL} (h : Own z w ss) (i : Nat) {b : Nat} {o : Obj} (hi : ss[i]? = some [(b, o)]) (o' : Obj) :
    Own z { w with heap := w.heap.setIfInBounds b o' } (ss.set i [(b, o')]) := by
  obtain ⟨e1, e2⟩ := flatten_set_split hi [(b, o')]
  have hb := h.blk i hi
  have hlt : b < w.heap.size := (Array.getElem?_eq_some_iff.1 hb).1
  have hnd := h.nd
  rw [e1] at hnd
  refine ⟨h.os, h.tape, h.output, by simpa using h.size, ?_, ?_⟩
  · rw [e2]; simpa using hnd
  · intro p hp
    rw [e2] at hp
    show (w.heap.setIfInBounds b o')[p.1]? = some p.2
    simp only [List.mem_append, List.mem_singleton] at hp
    have hne : p ∈ (ss.take i).flatten ∨ p ∈ (ss.drop (i + 1)).flatten → p.1 ≠ b := by
      intro hp' e
      simp only [List.map_append, List.map_cons, List.map_nil] at hnd
      rcases hp' with hp' | hp'
      · have := (List.nodup_append.1 hnd).2.2 p.1 (List.mem_map.2 ⟨p, hp', rfl⟩) b (by simp)
        exact this e
      · have := (List.nodup_append.1 hnd).2.1
        simp only [List.cons_append, List.nil_append, List.nodup_cons] at this
        exact this.1 (List.mem_map.2 ⟨p, hp', e⟩)
    rcases hp with hp | rfl | hp
    · rw [Array.getElem?_setIfInBounds_ne (by have := hne (.inl hp); omega)]
      exact h.at_ p (by rw [e1]; simp [hp])
    · simp [hlt]
    · rw [Array.getElem?_setIfInBounds_ne (by have := hne (.inr hp); omega)]
      exact h.at_ p (by rw [e1]; simp [hp])

/-! ### Whole worlds -/
/-- Every block of a world. -/
def blocks (w : World) : HL := (List.range w.heap.size).map fun i => (i, w.heap.getD i default)
theorem Own.all (w : World) : Own w w [blocks w] := by
  refine ⟨rfl, rfl, rfl, Nat.le_refl _, ?_, ?_⟩
  · simp [blocks, Function.comp_def, List.nodup_range]
  · intro p hp
    simp only [blocks, List.flatten_cons, List.flatten_nil, List.append_nil, List.mem_map, List.mem_range] at hp
    obtain ⟨i, hi, rfl⟩ := hp
    simp [hi]

theorem Own.below {z w : World} {ss : List HL} (h : Own z w ss) (i : Nat) (hi : ss[i]? = some (blocks z)) : Below z.heap.size z w := by
  refine ⟨h.os, h.tape, h.output, h.size, fun k hk => ?_⟩
  have hm : (k, z.heap.getD k default) ∈ blocks z := List.mem_map.2 ⟨k, by simpa using hk, rfl⟩
  have := h.get i hi hm
  simp only at this
  rw [this]
  simp [hk]
end Go.SL

/-! The operations of a region, one by one: those that only compute, all at once. -/
namespace Go.SL
open Go Go.RowKit

/-! ### A region's operations, in an order -/
/-- Every machine; frames of a function (r = none), or of a round of a range over a function. -/
def FW (r : Option Nat) : Fence := { Fence.wide with round := r }
/-- Operation number k is carried out, then K. -/
def opW (r : Option Nat) (P : Program) (ops : Array Oper) (Q : Exit → Act → World → Prop) (k : Nat) (K : Act → World → Prop) (a : Act) (w : World) : Prop :=
  match ops[k]? with
  | none => K a w
  | some o => if Region.wanted o (yielded ops a.tmps) then o.wpIn (FW r) 0 P a w K Q else K (a.put o.dst undef) w

theorem opW_in {r : Option Nat} {P : Program} {ops : Array Oper} {Q : Exit → Act → World → Prop} {k : Nat} {K : Act → World → Prop} {a : Act} {w : World} (h : opW r P ops Q k K a w) : wpOpIn (FW r) 0 P ops Q k K a w := by
  unfold opW at h
  unfold wpOpIn
  split
  · rename_i ho; simpa [ho] using h
  · rename_i o ho
    simp only [ho] at h
    split
    · rename_i hw; simpa [hw] using h
    · rename_i hw; simp only [hw] at h; exact ⟨fun _ _ => trivial, h⟩

theorem opW_mono {r : Option Nat} {P : Program} {ops : Array Oper} {Q : Exit → Act → World → Prop} {k : Nat} {K K' : Act → World → Prop} {a : Act} {w : World} (h : ∀ a w, K a w → K' a w) (hh : opW r P ops Q k K a w) : opW r P ops Q k K' a w := by
  unfold opW at *
  split
  · exact h _ _ (by simpa [*] using hh)
  · rename_i o ho
    simp only [ho] at hh
    split
    · rename_i hw; simp only [hw, if_true] at hh; exact Oper.wpIn_mono h hh
    · rename_i hw; simp only [hw] at hh; exact h _ _ hh

/-- From number k on, n operations. -/
def seqN (r : Option Nat) (P : Program) (ops : Array Oper) (Q : Exit → Act → World → Prop) : (k n : Nat) → Act → World → Prop
  | _, 0, a, w => Q .normal a w
  | k, n + 1, a, w => opW r P ops Q k (seqN r P ops Q (k + 1) n) a w

theorem wpOps_of_seqN {r : Option Nat} {P : Program} {ops : Array Oper} {Q : Exit → Act → World → Prop} : ∀ (n k : Nat) (a : Act) (w : World),
    seqN r P ops Q k n a w → wpOpsIn (FW r) 0 P ops Q (List.range' k n) a w
  | 0, _, _, _, h => h
  | n + 1, k, a, w, h => by
    rw [List.range'_succ, wpOpsIn_cons]
    exact opW_in (opW_mono (fun a w h => wpOps_of_seqN n (k + 1) a w h) h)

section
variable {r : Option Nat} {P : Program} {ops : Array Oper} {Q : Exit → Act → World → Prop} {a : Act} {w : World}

theorem region {id : Nat} (n : Nat) (hn : ops.size = n) (h : seqN r P ops Q 0 n a w) : (Code.region id ops false).wpIn (FW r) 0 P Q a w := by
  refine wpIn_region ?_
  rw [List.range_eq_range', hn]
  exact wpOps_of_seqN _ _ _ _ h

/-! ### What only computes -/
structure TE where
  d : TypeDesc
  size : Nat
  bytes : Nat
  zero : Option Value

abbrev TT := Nat → Option TE

structure TOK (P : Program) (T : TT) : Prop where
  ok : ∀ t e, T t = some e → P.underlying t = some e.d ∧ ∃ i, P.info? t = some i ∧ i.size = e.size ∧ i.bytes = e.bytes ∧ i.zero = e.zero

def aggD : TypeDesc → Bool
  | .struct _ | .array _ _ => true
  | _ => false

def pickV (t : Bool) (x y : Value) : Value :=
  match x, y with
  | .bool x, .bool y => .bool (bif t then x else y)
  | x, y => bif t then x else y

theorem pickV_eq (t : Bool) (x y : Value) : pickV t x y = if t then x else y := by
  unfold pickV
  split <;> cases t <;> rfl

def pPart (T : TT) (t : TypeId) (cs : Array Value) (off : Nat) : Option Value :=
  match T t with
  | none => none
  | some e => match aggD e.d with
    | true => some (.agg (cs.extract off (off + e.size)))
    | false => cs[off]?

def pInt (op : BinOp) (k : IntKind) (a b : Int) : Option Value :=
  match op with
  | .add => some (.int k (k.wrap (a + b)))
  | .sub => some (.int k (k.wrap (a - b)))
  | .mul => some (.int k (k.wrap (a * b)))
  | .and => some (.int k (k.wrap (BitVec.ofInt k.bits a &&& BitVec.ofInt k.bits b).toNat))
  | .or => some (.int k (k.wrap (BitVec.ofInt k.bits a ||| BitVec.ofInt k.bits b).toNat))
  | .xor => some (.int k (k.wrap (BitVec.ofInt k.bits a ^^^ BitVec.ofInt k.bits b).toNat))
  | .andNot => some (.int k (k.wrap (BitVec.ofInt k.bits a &&& ~~~BitVec.ofInt k.bits b).toNat))
  | .quo => match decide (b = 0) with | false => some (.int k (k.wrap (a.tdiv b))) | true => none
  | .rem => match decide (b = 0) with | false => some (.int k (a.tmod b)) | true => none
  | .eql => some (.bool (a == b))
  | .neq => some (.bool (a != b))
  | .lss => some (.bool (decide (a < b)))
  | .leq => some (.bool (decide (a ≤ b)))
  | .gtr => some (.bool (decide (a > b)))
  | .geq => some (.bool (decide (a ≥ b)))
  | _ => none

def pSh (op : BinOp) (k : IntKind) (a b : Int) : Option Value :=
  match decide (b < 0) with
  | true => none
  | false => match op with
    | .shl => some (.int k (k.wrap (a * 2 ^ (min b.toNat k.bits))))
    | .shr => some (.int k (a.fdiv (2 ^ (min b.toNat k.bits))))
    | _ => none

/-- '==' of two values that need no memory. -/
def pEq (d : TypeDesc) (x y : Value) : Option Bool :=
  match d, x, y with
  | .bool, .bool a, .bool b => some (a == b)
  | .string, .string a, .string b => some (a == b)
  | .pointer _, .pointer none, .pointer b => some b.isNone
  | .pointer _, .pointer (some _), .pointer none => some false
  | .slice _, .slice none _ _, .slice b _ _ => some b.isNone
  | .slice _, .slice (some _) _ _, .slice none _ _ => some false
  | .map _ _, .map none, .map b => some b.isNone
  | .map _ _, .map (some _), .map none => some false
  | .func _ _ _, .nilFunc, .nilFunc => some true
  | .func _ _ _, .nilFunc, .func _ _ _ => some false
  | .func _ _ _, .func _ _ _, .nilFunc => some false
  | _, _, _ => none

def isShift : BinOp → Bool
  | .shl | .shr => true
  | _ => false

def pBin (T : TT) (op : BinOp) (t : TypeId) (x y : Value) : Option Value :=
  match x, y with
  | .int k a, .int k' b => match isShift op with
    | true => pSh op k a b
    | false => match decide (k = k') with | true => pInt op k a b | false => none
  | x, y => match T t with
    | none => none
    | some e => match op with
      | .eql => match e.d with
        | .string => none
        | d => (pEq d x y).map .bool
      | .neq => match e.d with
        | .string => none
        | d => (pEq d x y).map fun b => .bool !b
      | _ => none

def pLen (d : TypeDesc) (v : Value) : Option Int :=
  match d, v with
  | .string, .string s => some s.size
  | .slice _, .slice _ n _ => some n
  | .array n _, _ => some n
  | _, _ => none
def pCap (d : TypeDesc) (v : Value) : Option Int :=
  match d, v with
  | .slice _, .slice _ _ n => some n
  | .array n _, _ => some n
  | _, _ => none

def pCall (T : TT) (ρ : Operand → Value) (c : Call) : Option Value :=
  match c.callee with
  | .builtin b => match c.argTypes[0]?, c.args[0]? with
    | some t, some x => match T t with
      | some e => match b with
        | .len => (pLen e.d (ρ x)).map (.int .i64)
        | .cap => (pCap e.d (ρ x)).map (.int .i64)
        | _ => none
      | none => none
    | _, _ => none
  | _ => none

def pv (T : TT) (ρ : Operand → Value) (op : Op) : Option Value :=
  match op with
  | .move x | .assign x => some (ρ x)
  | .pick c x y => match ρ c with | .bool t => some (pickV t (ρ x) (ρ y)) | _ => none
  | .binOp op t x y _ => pBin T op t (ρ x) (ρ y)
  | .unOp op _ x => match op, ρ x with
    | .not, .bool b => some (.bool !b)
    | .neg, .int k n => some (.int k (k.wrap (0 - n)))
    | .xor, .int k n => pInt .xor k (if k.signed then -1 else k.max) n
    | _, _ => none
  | .convert s d x => match T s, T d, ρ x with
    | some _, some e, .int _ n => match e.d with | .int k => some (.int k (k.wrap n)) | _ => none
    | _, _, _ => none
  | .nilCheck x => match ρ x with
    | .pointer (some p) => some (.pointer (some p))
    | .func (.func f) fs cs => some (.func (.func f) fs cs)
    | _ => none
  | .fieldAddr t x i => match T t, ρ x with
    | some e, .pointer (some p) => match e.d with
      | .struct fs => match fs[i]? with
        | some f => match T f.type with
          | some g => match g.size with | 0 => none | _ + 1 => some (.pointer (some (p.add f.offset)))
          | none => none
        | none => none
      | _ => none
    | _, _ => none
  | .field t x i => match T t, ρ x with
    | some e, .agg cs => match e.d with
      | .struct fs => match fs[i]? with
        | some f => pPart T f.type cs f.offset
        | none => none
      | _ => none
    | _, _ => none
  | .index t x i => match T t, ρ x, ρ i with
    | some e, .agg cs, .int _ n => match e.d with
      | .array len el => match T el with
        | some g => match decide (0 ≤ n ∧ n < len) with | true => pPart T el cs (n.toNat * g.size) | false => none
        | none => none
      | _ => none
    | _, _, _ => none
  | .indexAddr t x i => match T t, ρ x, ρ i with
    | some e, x, .int _ n => match e.d, x with
      | .array len el, .pointer (some p) => match T el with
        | some g => match decide (0 ≤ n ∧ n < len) with | true => some (.pointer (some (p.add (n.toNat * g.size)))) | false => none
        | none => none
      | .slice el, .slice (some p) len _ => match T el with
        | some g => match decide (0 ≤ n ∧ n < len) with | true => some (.pointer (some (p.add (n.toNat * g.size)))) | false => none
        | none => none
      | _, _ => none
    | _, _, _ => none
  | .extract x i => match ρ x with | .tuple vs => vs[i]? | _ => none
  | .makeFunc fn f c => some (.func fn (f.map ρ) (c.map ρ))
  | .makeInterface t x => match T t with
    | some e => match e.d with | .interface _ => none | _ => some (.iface t (ρ x))
    | none => none
  | .build t parts => match T t with
    | some e => match e.zero with
      | some z => match e.d with
        | .struct fs => match fs.toList.mapM (fun f => (T f.type).map fun g => (f.offset, g.size)) with
          | some places => (Instr.fill (places[·]?) z.cells (parts.map fun (i, x) => (i, ρ x)).toList).map .agg
          | none => none
        | .array _ el => match T el with
          | some g => (Instr.fill (fun i => some (i * g.size, g.size)) z.cells (parts.map fun (i, x) => (i, ρ x)).toList).map .agg
          | none => none
        | _ => none
      | none => none
    | none => none
  | .call c => pCall T ρ c
  | _ => none

end
end Go.SL

namespace Go.SL
open Go Go.RowKit
variable {P : Program} {T : TT}

theorem TOK.und (hT : TOK P T) {t : TypeId} {e : TE} (h : T t = some e) : P.underlying t = some e.d := (hT.ok t e h).1
theorem run_und (hT : TOK P T) {t : TypeId} {e : TE} (h : T t = some e) (w : World) : (underlying t).run P w = .ok e.d w := run_underlying (hT.und h) w
theorem run_size (hT : TOK P T) {t : TypeId} {e : TE} (h : T t = some e) (w : World) : (sizeOf t).run P w = .ok e.size w := by
  obtain ⟨_, i, hi, hs, _, _⟩ := hT.ok t e h
  simp [sizeOf, typeInfo, hi, hs]
theorem run_zero (hT : TOK P T) {t : TypeId} {e : TE} {z : Value} (h : T t = some e) (hz : e.zero = some z) (w : World) : (zeroValue t).run P w = .ok z w := by
  obtain ⟨_, i, hi, _, _, h3⟩ := hT.ok t e h
  rw [hz] at h3
  simp [zeroValue, typeInfo, hi, h3]
theorem run_isAgg (hT : TOK P T) {t : TypeId} {e : TE} (h : T t = some e) (w : World) : (isAgg t).run P w = .ok (aggD e.d) w := by
  unfold isAgg
  rw [Sem.run_bind, run_und hT h w]
  simp only [Result.andThen]
  cases e.d <;> rfl

theorem run_part (hT : TOK P T) {t : TypeId} {cs : Array Value} {off : Nat} {v : Value} (h : pPart T t cs off = some v) (w : World) :
    (part t cs off).run P w = .ok v w := by
  unfold pPart at h
  cases ht : T t with
  | none => simp [ht] at h
  | some e =>
    simp only [ht] at h
    unfold part
    rw [Sem.run_bind, run_isAgg hT ht w]
    simp only [Result.andThen]
    cases ha : aggD e.d with
    | true => simp only [ha, Option.some.injEq] at h; subst h; simp [run_size hT ht]
    | false => simp only [ha] at h; simp [h]

theorem pEq_sound {t : TypeId} {d : TypeDesc} {x y : Value} {b : Bool} (hu : P.underlying t = some d) (h : pEq d x y = some b) (w : World) :
    (Op.equal t x y).run P w = .ok b w := by
  have hr := run_underlying hu w
  unfold Op.equal
  rw [show Op.maxDepth = 9999 + 1 from rfl]
  unfold Op.equalIn
  rw [Sem.run_bind, hr]
  simp only [Result.andThen]
  unfold pEq at h
  split at h <;> simp only [Option.some.injEq, reduceCtorEq] at h <;> subst h <;> first | rfl | (rename_i a b; cases a <;> cases b <;> rfl)

theorem pEq_binOp {t : TypeId} {d : TypeDesc} {x y : Value} {b : Bool} (hu : P.underlying t = some d) (h : pEq d x y = some b) (hs : d ≠ .string) (w : World) :
    (binOp .eql t x y).run P w = .ok (.bool b) w ∧ (binOp .neq t x y).run P w = .ok (.bool !b) w := by
  have he := pEq_sound hu h w
  have h1 : binOp .eql t x y = (do pure (.bool (← Op.equal t x y))) := by
    unfold pEq at h
    split at h <;> first | rfl | (exact absurd rfl hs) | simp at h
  have h2 : binOp .neq t x y = (do pure (.bool (!(← Op.equal t x y)))) := by
    unfold pEq at h
    split at h <;> first | rfl | (exact absurd rfl hs) | simp at h
  rw [h1, h2]
  simp [he]

theorem pEq_guard {t : TypeId} {d : TypeDesc} {x y : Value} {b : Bool} {op : BinOp} {ox oy : Operand} (h : pEq d x y = some b) (w : World) :
    (eqGuard op t ox oy x y).run P w = .ok () w := by
  unfold pEq at h
  split at h <;> first | (simp at h; done) | (cases op <;> rfl)

theorem pInt_sound {op : BinOp} {k : IntKind} {t : TypeId} {a b : Int} {v : Value} (hs : isShift op = false) (h : pInt op k a b = some v) (w : World) :
    (binOp op t (.int k a) (.int k b)).run P w = .ok v w := by
  cases op <;> simp only [pInt, isShift, reduceCtorEq, Option.some.injEq] at h hs <;>
    first
      | (subst h; simp [binOp, Op.intArith, Op.intBits, Op.intCmp]; done)
      | (subst h; simp [binOp, Op.intArith, Op.intBits, Op.intCmp]; rfl)
      | (by_cases hb : b = 0
         · simp [hb] at h
         · simp only [hb, decide_false, Option.some.injEq] at h
           subst h
           simp [binOp, Op.intDiv, hb])

theorem pSh_sound {op : BinOp} {k k' : IntKind} {t : TypeId} {a b : Int} {v : Value} (h : pSh op k a b = some v) (w : World) :
    (binOp op t (.int k a) (.int k' b)).run P w = .ok v w := by
  unfold pSh at h
  by_cases hb : b < 0
  · simp [hb] at h
  · simp only [hb, decide_false] at h
    cases op <;> simp only [reduceCtorEq, Option.some.injEq] at h <;> subst h <;> simp [binOp, Op.shift, hb]

theorem pBin_sound (hT : TOK P T) {op : BinOp} {t : TypeId} {ox oy : Operand} {x y : Value} {v : Value} (h : pBin T op t x y = some v) (w : World) :
    (do eqGuard op t ox oy x y; binOp op t x y : Sem Value).run P w = .ok v w := by
  unfold pBin at h
  split at h
  · rename_i k a k' b
    have hg : (eqGuard op t ox oy (.int k a) (.int k' b)).run P w = .ok () w := by cases op <;> rfl
    simp only [Sem.run_bind, hg, Result.andThen]
    cases hs : isShift op with
    | true => simp only [hs] at h; exact pSh_sound h w
    | false =>
      simp only [hs] at h
      by_cases hk : k = k'
      · subst hk
        simp only [decide_true] at h
        exact pInt_sound hs h w
      · simp [hk] at h
  · cases ht : T t with
    | none => simp [ht] at h
    | some e =>
      simp only [ht] at h
      have hu := hT.und ht
      cases op <;> simp only [reduceCtorEq] at h
      · split at h
        · simp at h
        · rename_i hd
          rw [Option.map_eq_some_iff] at h
          obtain ⟨b, hb, rfl⟩ := h
          simp only [Sem.run_bind, pEq_guard hb w, Result.andThen, (pEq_binOp hu hb (fun e => hd e) w).1]
      · split at h
        · simp at h
        · rename_i hd
          rw [Option.map_eq_some_iff] at h
          obtain ⟨b, hb, rfl⟩ := h
          simp only [Sem.run_bind, pEq_guard hb w, Result.andThen, (pEq_binOp hu hb (fun e => hd e) w).2]

theorem run_fieldPlace (hT : TOK P T) {a : Addr} {f : Field} {g : TE} (hf : T f.type = some g) (h0 : g.size ≠ 0) (w : World) :
    (fieldPlace a f).run P w = .ok (a.add f.offset) w := by
  unfold fieldPlace
  rw [Sem.run_bind, run_size hT hf w]
  simp [Result.andThen, h0]

theorem mapM_places (hT : TOK P T) : ∀ (fs : List Field) (places : List (Nat × Nat)) (w : World), fs.mapM (fun f => (T f.type).map fun g => (f.offset, g.size)) = some places →
    (fs.mapM fun f => (do pure (f.offset, ← sizeOf f.type) : Sem (Nat × Nat))).run P w = .ok places w := by
  intro fs
  induction fs with
  | nil => intro places w h; simp at h; subst h; rfl
  | cons f fs ih =>
    intro places w h
    rw [List.mapM_cons] at h ⊢
    cases hf : T f.type with
    | none => simp [hf] at h
    | some g =>
      cases hr : fs.mapM (fun f => (T f.type).map fun g => (f.offset, g.size)) with
      | none => simp [hf, hr] at h
      | some r =>
        simp [hf, hr] at h
        subst h
        have h1 : (do pure (f.offset, ← sizeOf f.type) : Sem (Nat × Nat)).run P w = .ok (f.offset, g.size) w := by simp [run_size hT hf]
        rw [Sem.run_bind, h1]
        simp only [Result.andThen]
        rw [Sem.run_bind, ih r w hr]
        rfl

theorem pv_sound (hT : TOK P T) {o : Oper} {ρ : Operand → Value} {v : Value} (h : pv T ρ o.op = some v) (w : World) :
    (execOp ρ o).run P w = .ok (.value v) w := by
  obtain ⟨dst, op, type, pos, after, guard⟩ := o
  cases op <;> simp only [pv, reduceCtorEq] at h
  case move x => simp only [Option.some.injEq] at h; subst h; rfl
  case assign x => simp only [Option.some.injEq] at h; subst h; rfl
  case pick c x y =>
    split at h
    · rename_i t ht
      simp only [Option.some.injEq] at h; subst h
      simp [execOp, ht, asBool, pickV_eq]
    · simp at h
  case binOp op t x y ty =>
    have := pBin_sound hT (ox := x) (oy := y) h w
    simp only [execOp]
    rw [Sem.run_bind, this]
    rfl
  case unOp op t x =>
    split at h
    · rename_i b hb; simp only [Option.some.injEq] at h; subst h; simp [execOp, hb, Op.unary]
    · rename_i k n hb; simp only [Option.some.injEq] at h; subst h; simp [execOp, hb, Op.unary, Op.intArith]
    · rename_i k n hb; simp only [pInt, Option.some.injEq] at h; subst h; simp [execOp, hb, Op.unary, Op.intBits]
    · simp at h
  case convert s d x =>
    split at h
    · rename_i e1 e k n h1 h2 h3
      split at h
      · rename_i k' hk
        simp only [Option.some.injEq] at h; subst h
        have hu1 := run_und hT h1 w
        have hu2 := run_und hT h2 w
        rw [hk] at hu2
        simp only [execOp, h3, convert, Sem.run_bind, hu1, hu2, Result.andThen]
        cases e1.d <;> rfl
      · simp at h
    · simp at h
  case nilCheck x =>
    split at h
    · rename_i p hp; simp only [Option.some.injEq] at h; subst h; simp [execOp, hp]
    · rename_i f fs cs hp; simp only [Option.some.injEq] at h; subst h; simp [execOp, hp]
    · simp at h
  case fieldAddr t x i =>
    split at h
    · rename_i e p h1 h2
      split at h
      · rename_i fs hd
        split at h
        · rename_i f hf
          split at h
          · rename_i g hg
            split at h
            · simp at h
            · rename_i n hn
              simp only [Option.some.injEq] at h; subst h
              have hu := run_und hT h1 w
              rw [hd] at hu
              simp [execOp, Instr.fieldAt, hu, hf, h2, Instr.sureAddr, run_fieldPlace hT hg (by omega)]
          · simp at h
        · simp at h
      · simp at h
    · simp at h
  case field t x i =>
    split at h
    · rename_i e cs h1 h2
      split at h
      · rename_i fs hd
        split at h
        · rename_i f hf
          have hu := run_und hT h1 w
          rw [hd] at hu
          simp [execOp, Instr.field, hu, hf, h2, asAgg, run_part hT h]
        · simp at h
      · simp at h
    · simp at h
  case index t x i =>
    split at h
    · rename_i e cs k n h1 h2 h3
      split at h
      · rename_i len el hd
        split at h
        · rename_i g hg
          by_cases hb : 0 ≤ n ∧ n < len
          · simp only [hb, and_self, decide_true] at h
            have hu := run_und hT h1 w
            rw [hd] at hu
            simp [execOp, Instr.index, hu, h2, h3, asIntOf, hb, run_size hT hg, run_part hT h]
          · simp [hb] at h
        · simp at h
      · simp at h
    · simp at h
  case indexAddr t x i =>
    split at h
    · rename_i e vx k n h1 h3
      have hu := run_und hT h1 w
      split at h
      · rename_i len el p hd h2
        rw [hd] at hu
        split at h
        · rename_i g hg
          by_cases hb : 0 ≤ n ∧ n < len
          · simp only [hb, and_self, decide_true, Option.some.injEq] at h
            subst h
            simp [execOp, Instr.indexAt, hu, h2, h3, asIntOf, hb, run_size hT hg, Instr.sureAddr]
          · simp [hb] at h
        · simp at h
      · rename_i el p len cap hd h2
        rw [hd] at hu
        split at h
        · rename_i g hg
          by_cases hb : 0 ≤ n ∧ n < len
          · simp only [hb, and_self, decide_true, Option.some.injEq] at h
            subst h
            simp [execOp, Instr.indexAt, hu, h2, h3, asIntOf, hb, run_size hT hg]
          · simp [hb] at h
        · simp at h
      · simp at h
    · simp at h
  case extract x i =>
    split at h
    · rename_i vs hv
      simp [execOp, Instr.extract, hv, h]
    · simp at h
  case makeFunc fn f c => simp only [Option.some.injEq] at h; subst h; simp [execOp, Instr.makeFunc]
  case makeInterface t x =>
    cases ht : T t with
    | none => simp [ht] at h
    | some e =>
      simp only [ht] at h
      have hu := run_und hT ht w
      simp only [execOp, Instr.makeInterface, Sem.run_bind, hu, Result.andThen]
      cases hd : e.d <;> simp only [hd, reduceCtorEq, Option.some.injEq] at h <;> subst h <;> rfl
  case build t parts =>
    cases ht : T t with
    | none => simp [ht] at h
    | some e =>
      simp only [ht] at h
      have hu := run_und hT ht w
      cases hz : e.zero with
      | none => simp [hz] at h
      | some z =>
        simp only [hz] at h
        have hzr := run_zero hT ht hz w
        split at h
        · rename_i fs hd
          rw [hd] at hu
          split at h
          · rename_i places hp
            rw [Option.map_eq_some_iff] at h
            obtain ⟨cells, hc, rfl⟩ := h
            have hm := mapM_places hT _ _ w hp
            simp only [execOp, Instr.build, Sem.run_bind, hzr, hu, Result.andThen]
            have hm' : (fs.mapM fun f => (do pure (f.offset, ← sizeOf f.type) : Sem (Nat × Nat))).run P w = .ok places.toArray w := by
              rw [Array.mapM_eq_mapM_toList]
              show ((fs.toList.mapM _ >>= fun l => pure l.toArray) : Sem (Array (Nat × Nat))).run P w = _
              rw [Sem.run_bind, hm]
              rfl
            simp only [hm']
            have hpl : (fun x : Nat => places.toArray[x]?) = fun x : Nat => places[x]? := by funext i; simp
            rw [hpl, hc]
            rfl
          · simp at h
        · rename_i len el hd
          rw [hd] at hu
          split at h
          · rename_i g hg
            rw [Option.map_eq_some_iff] at h
            obtain ⟨cells, hc, rfl⟩ := h
            simp only [execOp, Instr.build, Sem.run_bind, hzr, hu, Result.andThen, run_size hT hg, hc]
            rfl
          · simp at h
        · simp at h
  case call c =>
    unfold pCall at h
    obtain ⟨callee, args, argTypes⟩ := c
    simp only at h
    cases callee with
    | value f => simp at h
    | invoke r m => simp at h
    | builtin b =>
      simp only at h
      split at h
      · rename_i t x h1 h2
        have hx : (args.map ρ)[0]? = some (ρ x) := by simp [h2]
        cases ht : T t with
        | none => simp [ht] at h
        | some e =>
          simp only [ht] at h
          have hu := run_und hT ht w
          cases b <;> simp only [reduceCtorEq] at h
          case len =>
            rw [Option.map_eq_some_iff] at h
            obtain ⟨n, hn, rfl⟩ := h
            have hr : (Builtin.len_ argTypes type (args.map ρ)).run P w = .ok (.int .i64 n) w := by
              unfold Builtin.len_
              rw [h1, hx]
              simp only [Sem.run_bind, hu, Result.andThen]
              clear hu hx ht h2
              generalize ρ x = vx at hn ⊢
              cases hd : e.d <;> cases vx <;> simp only [pLen, hd, reduceCtorEq, Option.some.injEq] at hn <;> subst hn <;> rfl
            simp [execOp, resolve, invoke, builtin, hr]
          case cap =>
            rw [Option.map_eq_some_iff] at h
            obtain ⟨n, hn, rfl⟩ := h
            have hr : (Builtin.cap_ argTypes type (args.map ρ)).run P w = .ok (.int .i64 n) w := by
              unfold Builtin.cap_
              rw [h1, hx]
              simp only [Sem.run_bind, hu, Result.andThen]
              clear hu hx ht h2
              generalize ρ x = vx at hn ⊢
              cases hd : e.d <;> cases vx <;> simp only [pCap, hd, reduceCtorEq, Option.some.injEq] at hn <;> subst hn <;> rfl
            simp [execOp, resolve, invoke, builtin, hr]
      · simp at h
end Go.SL

namespace Go.SL
open Go Go.RowKit
variable {r : Option Nat} {P : Program} {T : TT} {ops : Array Oper} {Q : Exit → Act → World → Prop} {a a' : Act} {w z : World} {ss : List HL} {K : Act → World → Prop}

/-! ### Many that only compute -/
def wantB (ops : Array Oper) (a : Act) (o : Oper) : Bool := Region.wanted o (yielded ops a.tmps)

/-- In a round, too, what is no defer is carried out as everywhere. -/
theorem semAt_run {o : Oper} {ρ : Operand → Value} (hd : ∀ c, o.op ≠ .defer c) : o.semAt (FW r).round ρ = execOp ρ o := Oper.semAt_eq _ _ _ hd

theorem not_defer_val {o : Oper} {ρ : Operand → Value} {v : Value} {w w' : World} (h : (execOp ρ o).run P w = .ok (.value v) w') : ∀ c, o.op ≠ .defer c := by
  intro c hc
  obtain ⟨dst, op, type, pos, after, guard⟩ := o
  simp only at hc
  subst hc
  simp only [execOp, Sem.run_bind] at h
  cases hr : (resolve ρ c type).run P w with
  | ok d w1 => rw [hr] at h; simp [Result.andThen] at h
  | halt x w1 => rw [hr] at h; simp [Result.andThen] at h
theorem not_defer_skip {o : Oper} {ρ : Operand → Value} {w w' : World} (h : (execOp ρ o).run P w = .ok .skip w') : ∀ c, o.op ≠ .defer c := by
  intro c hc
  obtain ⟨dst, op, type, pos, after, guard⟩ := o
  simp only at hc
  subst hc
  simp only [execOp, Sem.run_bind] at h
  cases hr : (resolve ρ c type).run P w with
  | ok d w1 => rw [hr] at h; simp [Result.andThen] at h
  | halt x w1 => rw [hr] at h; simp [Result.andThen] at h
theorem not_defer_enter {o : Oper} {ρ : Operand → Value} {f : FuncId} {args : Array Value} {w w' : World} (h : (execOp ρ o).run P w = .ok (.enter f args) w') : ∀ c, o.op ≠ .defer c := by
  intro c hc
  obtain ⟨dst, op, type, pos, after, guard⟩ := o
  simp only at hc
  subst hc
  simp only [execOp, Sem.run_bind] at h
  cases hr : (resolve ρ c type).run P w with
  | ok d w1 => rw [hr] at h; simp [Result.andThen] at h
  | halt x w1 => rw [hr] at h; simp [Result.andThen] at h

theorem wpOp_val {k : Nat} {o : Oper} {v : Value} {w' : World} (ho : ops[k]? = some o) (hw : wantB ops a o = true) (hr : (execOp a.eval o).run P w = .ok (.value v) w') (h : K (a.put o.dst v) w') :
    opW r P ops Q k K a w := by
  unfold opW
  simp only [ho]
  unfold wantB at hw
  rw [if_pos hw]
  exact ⟨fun _ _ => trivial, by rw [semAt_run (not_defer_val hr), hr]; exact h⟩
theorem wpOp_skip {k : Nat} {o : Oper} {w' : World} (ho : ops[k]? = some o) (hw : wantB ops a o = true) (hr : (execOp a.eval o).run P w = .ok .skip w') (h : K (a.put o.dst undef) w') :
    opW r P ops Q k K a w := by
  unfold opW
  simp only [ho]
  unfold wantB at hw
  rw [if_pos hw]
  exact ⟨fun _ _ => trivial, by rw [semAt_run (not_defer_skip hr), hr]; exact h⟩
theorem wpOp_pass {k : Nat} {o : Oper} (ho : ops[k]? = some o) (hw : wantB ops a o = false) (h : K (a.put o.dst undef) w) : opW r P ops Q k K a w := by
  unfold opW
  simp only [ho]
  unfold wantB at hw
  rw [if_neg (by simp [hw])]
  exact h

/-! ### Reading memory -/
def ldP (T : TT) (t : TypeId) (cs : Array Value) (off : Nat) : Option Value :=
  match T t with
  | none => none
  | some e => match aggD e.d with
    | true => match decide (off + e.size ≤ cs.size) with | true => some (.agg (cs.extract off (off + e.size))) | false => none
    | false => cs[off]?

theorem run_load_blk (hT : TOK P T) {t : TypeId} {b off : Nat} {cs : Array Value} {et : TypeId} {fr : Nat × Nat} {v : Value} (hb : w.heap[b]? = some (.cells cs et fr)) (h : ldP T t cs off = some v) :
    (loadVar t ⟨b, off, none⟩).run P w = .ok v w := by
  unfold ldP at h
  cases ht : T t with
  | none => simp [ht] at h
  | some e =>
    simp only [ht] at h
    unfold loadVar
    rw [Sem.run_bind, run_isAgg hT ht w]
    simp only [Result.andThen]
    cases ha : aggD e.d with
    | true =>
      simp only [ha] at h
      by_cases hle : off + e.size ≤ cs.size
      · simp only [hle, decide_true, Option.some.injEq] at h
        subst h
        have hl := run_loadCells_list (P := P) w ⟨b, off, none⟩ (cs.extract off (off + e.size)).toList (fun j v hv => by
          rw [Addr.add_mid, cell_of_row w b (off + j) cs et fr hb]
          rw [Array.getElem?_toList, Array.getElem?_extract] at hv
          split at hv
          · exact hv
          · simp at hv)
        have hlen : (cs.extract off (off + e.size)).toList.length = e.size := by simp; omega
        rw [hlen, Array.toArray_toList] at hl
        simp only [if_true, Sem.run_bind, run_size hT ht w, Result.andThen, hl, Sem.run_pure]
      · simp [hle] at h
    | false =>
      simp only [ha] at h
      have hc : w.cell? ⟨b, off, none⟩ = some v := by rw [cell_of_row w b off cs et fr hb, h]
      simp [hc]

theorem run_load_op (hT : TOK P T) {o : Oper} {ρ : Operand → Value} {t : TypeId} {x : Operand} {b off : Nat} {cs : Array Value} {et : TypeId} {fr : Nat × Nat} {v : Value}
    (ho : o.op = .load t x) (hx : ρ x = .pointer (some ⟨b, off, none⟩)) (hb : w.heap[b]? = some (.cells cs et fr)) (h : ldP T t cs off = some v) :
    (execOp ρ o).run P w = .ok (.value v) w := by
  obtain ⟨dst, op, type, pos, after, guard⟩ := o
  simp only at ho
  subst ho
  simp [execOp, hx, Instr.loadAt, Instr.sureAddr, run_load_blk hT hb h]

/-- A load: number k, the block is segment number i. -/
theorem op_load (hT : TOK P T) (hO : Own z w ss) {k : Nat} {o : Oper} (i : Nat) {t : TypeId} {x : Operand} {b off : Nat} {cs : Array Value} {et : TypeId} {v : Value}
    (ho : ops[k]? = some o) (hop : o.op = .load t x) (hw : wantB ops a o = true) (hx : a.eval x = .pointer (some ⟨b, off, none⟩))
    (hb : ss[i]? = some [(b, .cells cs et (0, 0))]) (hv : ldP T t cs off = some v) (h : K (a.put o.dst v) w) : opW r P ops Q k K a w :=
  wpOp_val ho hw (run_load_op hT hop hx (hO.blk i hb) hv) h

/-! ### Writing memory -/
def one (v : Value) : Bool := v.oneCell'

def stP (T : TT) (t : TypeId) (cs : Array Value) (off : Nat) (v : Value) : Option (Array Value) :=
  match T t with
  | none => none
  | some e => match decide (v.cells.size = e.size) with
    | false => none
    | true => match decide (off + e.size ≤ cs.size) with
      | false => none
      | true => match v.cells.toList.all one with
        | true => some (cs.toList.take off ++ v.cells.toList ++ cs.toList.drop (off + e.size)).toArray
        | false => none

theorem run_store_blk (hT : TOK P T) {t : TypeId} {b off : Nat} {cs cs' : Array Value} {et : TypeId} {v : Value} (hb : w.heap[b]? = some (.cells cs et (0, 0))) (h : stP T t cs off v = some cs') :
    (storeVar t ⟨b, off, none⟩ v).run P w = .ok () { w with heap := w.heap.setIfInBounds b (.cells cs' et (0, 0)) } := by
  unfold stP at h
  cases ht : T t with
  | none => simp [ht] at h
  | some e =>
    simp only [ht] at h
    by_cases h1 : v.cells.size = e.size
    · simp only [h1, decide_true] at h
      by_cases h2 : off + e.size ≤ cs.size
      · simp only [h2, decide_true] at h
        cases h3 : v.cells.toList.all one with
        | false => simp [h3] at h
        | true =>
          simp only [h3, Option.some.injEq] at h
          subst h
          have h3' : ∀ u ∈ v.cells.toList, u.oneCell' = true := List.all_eq_true.1 h3
          have := run_storeCells_at (P := P) b off et v.cells.toList 0 cs w hb (by simp; omega) h3'
          unfold storeVar
          rw [Sem.run_bind, run_size hT ht w]
          simp only [Result.andThen, h1, ne_eq, not_true, if_false]
          rw [this]
          congr 1
          have hlt : b < w.heap.size := (Array.getElem?_eq_some_iff.1 hb).1
          have he : w.heap[b] = .cells cs et (0, 0) := (Array.getElem?_eq_some_iff.1 hb).2
          unfold World.setRow
          congr 1
          apply Array.ext_getElem?
          intro i
          rw [Array.getElem?_modify, Array.getElem?_setIfInBounds]
          by_cases hi : b = i
          · subst hi
            simp [hlt, he, h1]
          · simp [hi]
      · simp [h2] at h
    · simp [h1] at h

theorem run_store_op (hT : TOK P T) {o : Oper} {ρ : Operand → Value} {t : TypeId} {x y : Operand} {b off : Nat} {cs cs' : Array Value} {et : TypeId}
    (ho : o.op = .store t x y) (hx : ρ x = .pointer (some ⟨b, off, none⟩)) (hb : w.heap[b]? = some (.cells cs et (0, 0))) (h : stP T t cs off (ρ y) = some cs') :
    (execOp ρ o).run P w = .ok .skip { w with heap := w.heap.setIfInBounds b (.cells cs' et (0, 0)) } := by
  obtain ⟨dst, op, type, pos, after, guard⟩ := o
  simp only at ho
  subst ho
  simp [execOp, hx, Instr.storeAt, Instr.sureAddr, run_store_blk hT hb h]

/-- A store: number k, the block is segment number i. -/
theorem op_store (hT : TOK P T) (hO : Own z w ss) {k : Nat} {o : Oper} (i : Nat) {t : TypeId} {x y : Operand} {b off : Nat} {cs : Array Value} {et : TypeId} (cs' : Array Value)
    (ho : ops[k]? = some o) (hop : o.op = .store t x y) (hd : o.dst = none) (hw : wantB ops a o = true) (hx : a.eval x = .pointer (some ⟨b, off, none⟩))
    (hb : ss[i]? = some [(b, .cells cs et (0, 0))]) (hv : stP T t cs off (a.eval y) = some cs')
    (h : ∀ w', Own z w' (ss.set i [(b, .cells cs' et (0, 0))]) → K a w') : opW r P ops Q k K a w := by
  refine wpOp_skip ho hw (run_store_op hT hop hx (hO.blk i hb) hv) ?_
  rw [hd]
  exact h _ (hO.put i hb _)

/-! ### New memory -/
theorem op_alloc (hT : TOK P T) (hO : Own z w ss) {k : Nat} {o : Oper} {t : TypeId} {e : TE} {v : Value} (ho : ops[k]? = some o) (hop : o.op = .alloc t) (hw : wantB ops a o = true)
    (ht : T t = some e) (hz : e.zero = some v) (h : ∀ b w', Own z w' (ss ++ [[(b, .cells v.cells t (0, 0))]]) → K (a.put o.dst (.pointer (some ⟨b, 0, none⟩))) w') : opW r P ops Q k K a w := by
  have hr : (execOp a.eval o).run P w = .ok (.value (.pointer (some ⟨w.heap.size, 0, none⟩))) { w with heap := w.heap.push (.cells v.cells t (0, 0)) } := by
    obtain ⟨dst, op, type, pos, after, guard⟩ := o
    simp only at hop
    subst hop
    simp [execOp, Instr.alloc, run_zero hT ht hz, newVar, newRow]
  exact wpOp_val ho hw hr (h _ _ (hO.alloc _))

theorem op_box (hO : Own z w ss) {k : Nat} {o : Oper} {t : TypeId} {x : Operand} {v : Value} (ho : ops[k]? = some o) (hop : o.op = .box t x) (hw : wantB ops a o = true)
    (hx : a.eval x = v) (h : ∀ b w', Own z w' (ss ++ [[(b, .cells v.cells t (0, 0))]]) → K (a.put o.dst (.pointer (some ⟨b, 0, none⟩))) w') : opW r P ops Q k K a w := by
  have hr : (execOp a.eval o).run P w = .ok (.value (.pointer (some ⟨w.heap.size, 0, none⟩))) { w with heap := w.heap.push (.cells v.cells t (0, 0)) } := by
    obtain ⟨dst, op, type, pos, after, guard⟩ := o
    simp only at hop
    subst hop
    simp [execOp, Instr.box, hx, newVar, newRow]
  exact wpOp_val ho hw hr (h _ _ (hO.alloc _))

def bsP (T : TT) (el : TypeId) (len : Nat) (parts : List (Nat × Value)) : Option (Array Value) :=
  match T el with
  | none => none
  | some g => match g.zero with
    | none => none
    | some zv => match Nat.ble (len * g.size) (2 ^ 24) with
      | true => Instr.fill (fun i => some (i * g.size, g.size)) ((Array.range (len * g.size)).map (zv.cells[· % zv.cells.size]!)) parts
      | false => none

theorem op_buildSlice (hT : TOK P T) (hO : Own z w ss) {k : Nat} {o : Oper} {t el : TypeId} {e : TE} {len : Nat} {parts : Array (Nat × Operand)} (cs : Array Value) (ho : ops[k]? = some o) (hop : o.op = .buildSlice t len parts) (hw : wantB ops a o = true)
    (ht : T t = some e) (hd : e.d = .slice el) (hl : len ≠ 0) (hs : (T el).any (·.size ≠ 0) = true) (hc : bsP T el len (parts.map fun (i, x) => (i, a.eval x)).toList = some cs)
    (h : ∀ b w', Own z w' (ss ++ [[(b, .cells cs el (0, 0))]]) → K (a.put o.dst (.slice (some ⟨b, 0, none⟩) len len)) w') : opW r P ops Q k K a w := by
  have hr : (execOp a.eval o).run P w = .ok (.value (.slice (some ⟨w.heap.size, 0, none⟩) len len)) { w with heap := w.heap.push (.cells cs el (0, 0)) } := by
    obtain ⟨dst, op, type, pos, after, guard⟩ := o
    simp only at hop
    subst hop
    have hu := run_und hT ht w
    rw [hd] at hu
    unfold bsP at hc
    cases hg : T el with
    | none => simp [hg] at hc
    | some g =>
      simp only [hg] at hc
      cases hz : g.zero with
      | none => simp [hz] at hc
      | some zv =>
        simp only [hz] at hc
        cases hb : Nat.ble (len * g.size) (2 ^ 24) with
        | false => simp [hb] at hc
        | true =>
          simp only [hb] at hc
          have hle : ¬ len * g.size > 2 ^ 24 := by have := Nat.le_of_ble_eq_true hb; omega
          have hne : ¬ len * g.size = 0 := by
            simp [hg] at hs
            intro h0
            rcases Nat.mul_eq_zero.1 h0 with h0 | h0
            · exact hl h0
            · exact hs h0
          simp only [execOp, Instr.buildSlice, Sem.run_bind, hu, Result.andThen, run_size hT hg w, hle, if_false, hne, run_zero hT hg hz w, Sem.run_pure]
          rw [hc]
          simp [newRow]
  exact wpOp_val ho hw hr (h _ _ (hO.alloc _))

/-! ### Calls -/
/-- The call returns. -/
def Ret (P : Program) (f : FuncId) (args : Array Value) (w : World) (R : Value → World → Prop) : Prop :=
  Calls P f args w fun e w' => ∃ v, e = .returned v ∧ R v w'

theorem Ret.mono {f : FuncId} {args : Array Value} {R R' : Value → World → Prop} (h : Ret P f args w R) (hr : ∀ v w', R v w' → R' v w') : Ret P f args w R' :=
  Calls.mono h fun _ _ ⟨v, he, hv⟩ => ⟨v, he, hr v _ hv⟩

theorem calls_in {f : FuncId} {args : Array Value} {R : Ending → World → Prop} (h : Calls P f args w R) : CallsIn (FW r) 0 P f args w R := callsIn_wide.2 h

theorem op_call {k : Nat} {o : Oper} {f : FuncId} {args : Array Value} {R : Value → World → Prop} (ho : ops[k]? = some o) (hw : wantB ops a o = true)
    (hr : (execOp a.eval o).run P w = .ok (.enter f args) w) (hc : Ret P f args w R) (h : ∀ v w', R v w' → K (a.put o.dst v) w') : opW r P ops Q k K a w := by
  unfold opW
  simp only [ho]
  unfold wantB at hw
  rw [if_pos hw]
  refine ⟨fun _ _ => trivial, ?_⟩
  rw [semAt_run (not_defer_enter hr), hr]
  exact ⟨(fun h => by cases h), calls_in (Calls.mono hc fun e w' ⟨v, he, hv⟩ => by subst he; exact h v w' hv)⟩

theorem op_callP {k : Nat} {o : Oper} {f : FuncId} {args : Array Value} {R : Ending → World → Prop} (ho : ops[k]? = some o) (hw : wantB ops a o = true)
    (hr : (execOp a.eval o).run P w = .ok (.enter f args) w) (hc : Calls P f args w R) (h : ∀ v w', R (.returned v) w' → K (a.put o.dst v) w')
    (hp : ∀ c w', R (.panicked c) w' → Q (.panic c) a w') (hout : ∀ w', ¬ R .outgrown w') : opW r P ops Q k K a w := by
  unfold opW
  simp only [ho]
  unfold wantB at hw
  rw [if_pos hw]
  refine ⟨fun _ _ => trivial, ?_⟩
  rw [semAt_run (not_defer_enter hr), hr]
  refine ⟨(fun h => by cases h), calls_in (Calls.mono hc fun e w' hv => ?_)⟩
  cases e with
  | returned v => exact h v w' hv
  | panicked c => exact hp c w' hv
  | outgrown => exact absurd hv (hout w')
end Go.SL

/-! A region that draws its order: one walk, for every order: what only looks comes first, what acts comes when nothing else may. -/
namespace Go.SL
open Go Go.RowKit
variable {r₀ : Option Nat} {P : Program} {T : TT} {ops : Array Oper} {Q : Exit → Act → World → Prop} {md : Region.Mode}

/-- Every operation from N on waits for every one below N. -/
def tailOk (ops : Array Oper) (N : Nat) : Bool :=
  (List.range ops.size).all fun j => Nat.blt j N || (List.range N).all fun i => (ops[j]?).any fun o => o.after.any fun e => Nat.beq e.on i && Region.binds .any e

/-- Whatever order is picked from here on, and S holds behind every operation below N. -/
def wpAnyN (r₀ : Option Nat) (P : Program) (ops : Array Oper) (Q : Exit → Act → World → Prop) (S : World → Prop) (N : Nat) : Nat → Array Bool → Act → World → Prop
  | 0, listed, a, w => Region.ready .any ops listed = [] ∧ Q .normal a w
  | fuel + 1, listed, a, w =>
    (Region.ready .any ops listed = [] → Q .normal a w) ∧
    ∀ i ∈ Region.ready .any ops listed, opW r₀ P ops Q i (fun a' w' => (i < N → S w') ∧ wpAnyN r₀ P ops Q S N fuel (listed.setIfInBounds i true) a' w') a w

theorem wpAny_of_N {S : World → Prop} {N : Nat} : ∀ (fuel : Nat) (listed : Array Bool) (a : Act) (w : World), wpAnyN r₀ P ops Q S N fuel listed a w → wpAnyIn (FW r₀) 0 P .any ops Q fuel listed a w
  | 0, _, _, _, h => h
  | fuel + 1, _, _, _, h => ⟨h.1, fun i hi => opW_in (opW_mono (fun a' w' h' => wpAny_of_N fuel _ a' w' h'.2) (h.2 i hi))⟩

theorem tailOk_spec {N : Nat} (h : tailOk ops N = true) {i j : Nat} {oj : Oper} {listed : Array Bool} (hi : i < N) (hun : listed.getD i true = false) (hj : j ∈ Region.ready .any ops listed) (hoj : ops[j]? = some oj) : j < N := by
  apply Classical.byContradiction
  intro hjN
  have hlt : j < ops.size := (Array.getElem?_eq_some_iff.1 hoj).1
  have h1 := List.all_eq_true.1 h j (List.mem_range.2 hlt)
  have h2 : Nat.blt j N = false := by
    cases hb : Nat.blt j N with
    | false => rfl
    | true => exact absurd (Nat.lt_of_succ_le (Nat.le_of_ble_eq_true hb)) hjN
  rw [h2, Bool.false_or] at h1
  have h3 := List.all_eq_true.1 h1 i (List.mem_range.2 hi)
  rw [hoj] at h3
  simp only [Option.any_some, Array.any_eq_true, Bool.and_eq_true] at h3
  obtain ⟨n, hn, he, hb⟩ := h3
  obtain ⟨_, oj', hoj', hall⟩ := mem_ready.1 hj
  rw [hoj] at hoj'
  obtain rfl := Option.some.inj hoj'
  have := hall _ (Array.getElem_mem hn) hb
  rw [Nat.eq_of_beq_eq_true he] at this
  rcases Nat.lt_or_ge i listed.size with h' | h'
  · simp [h'] at hun this; rw [hun] at this; cases this
  · simp [Array.getElem?_eq_none h'] at this

theorem yif_opW {S : World → Prop} {i : Nat} {o : Oper} {v : Value} {a : Act} (hi : ops[i]? = some o) (hy : YieldsIf P ops S o v a)
    {K : Act → World → Prop} {w : World} (hS : S w) (h : K (a.put o.dst v) w) : opW r₀ P ops Q i K a w := by
  rcases hy with ⟨hw, hv⟩ | ⟨hw, rfl⟩
  · exact wpOp_val hi hw (hv w hS) h
  · exact wpOp_pass hi hw h

/-- One operation 'oj', apart from 'oi'. -/
theorem opW_putIf {S : World → Prop} {j : Nat} {oi oj : Oper} {v : Value} (hj : ops[j]? = some oj) (hap : oi.apart ops oj = true)
    (hsi : ∀ cs b, oi.op ≠ .select cs b) (hsj : ∀ cs b, oj.op ≠ .select cs b) (hdj : ∀ c, oj.op ≠ .defer c)
    (hQ : ∀ c a w, Q (.panic c) (a.put oi.dst v) w → Q (.panic c) a w) {K : Act → World → Prop} {a : Act} {w : World}
    (hy : YieldsIf P ops S oi v a) (h : opW r₀ P ops Q j K (a.put oi.dst v) w) :
    opW r₀ P ops Q j (fun a' w' => YieldsIf P ops S oi v a' ∧ K (a'.put oi.dst v) w') a w := by
  obtain ⟨h1, h2, h3⟩ := Oper.apart_spec hap
  have keep : ∀ (a : Act), YieldsIf P ops S oi v a → ∀ u, YieldsIf P ops S oi v (a.put oj.dst u) := fun a hy u =>
    hy.of_same (execOp_put oi hsi a oj.dst u h3) (wanted_put oi a oj.dst u h3)
  unfold SL.opW at *
  simp only [hj] at *
  rw [wanted_put oj a oi.dst v h1] at h
  split
  · rename_i hw
    simp only [hw, if_true] at h
    unfold Oper.wpIn at *
    refine ⟨fun _ _ => trivial, ?_⟩
    have h := h.2
    rw [semAt_run hdj, execOp_put oj hsj a oi.dst v h1] at h
    rw [semAt_run hdj]
    generalize hr : (execOp a.eval oj).run P w = rr at *
    cases rr with
    | ok x w' =>
      cases x <;> simp only [Oper.uponIn] at h ⊢
      case value u => exact ⟨keep a hy u, by rw [← Act.put_comm a v u h2]; exact h⟩
      case skip => exact ⟨keep a hy _, by rw [← Act.put_comm a v undef h2]; exact h⟩
      case defer d =>
        refine ⟨?_, ?_⟩
        · exact (show YieldsIf P ops S oi v { a with defers := d :: a.defers } from hy.of_same rfl rfl).of_same (execOp_put oi hsi { a with defers := d :: a.defers } oj.dst undef h3) (wanted_put oi { a with defers := d :: a.defers } oj.dst undef h3)
        · rw [← Act.put_comm _ v undef h2, ← Act.put_defers]
          exact h
      case enter f args =>
        refine ⟨h.1, CallsIn.mono h.2 fun e w'' he => ?_⟩
        cases e with
        | returned u => exact ⟨keep a hy u, by rw [← Act.put_comm a v u h2]; exact he⟩
        | panicked c => exact hQ _ _ _ he
        | outgrown => exact he
      case row row args => exact ⟨h.1, RowsIn.mono h.2 fun u w'' he => ⟨keep a hy u, by rw [← Act.put_comm a v u h2]; exact he⟩⟩
      case round l f tmps assign body =>
        refine ⟨h.1, RoundIn.mono h.2 fun e w'' he => ?_⟩
        cases e with
        | returned u => exact ⟨keep a hy u, by rw [← Act.put_comm a v u h2]; exact he⟩
        | panicked c => exact hQ _ _ _ he
        | outgrown => exact he
    | halt x w' =>
      cases x <;> simp only [Oper.uponIn] at h ⊢
      case panic u => exact hQ _ _ _ h
  · rename_i hw
    simp only [hw] at h
    exact ⟨keep a hy _, by rw [← Act.put_comm a v undef h2]; exact h⟩

theorem wpAnyN_first {S : World → Prop} {N : Nat} (hN : tailOk ops N = true) {i : Nat} {oi : Oper} {v : Value} (hiN : i < N) (hi : ops[i]? = some oi) (hsel : ∀ (j : Nat) (o : Oper) cs b, ops[j]? = some o → o.op ≠ .select cs b)
    (hdef : ∀ (j : Nat) (o : Oper) c, ops[j]? = some o → o.op ≠ .defer c)
    (hQ : ∀ c a w, Q (.panic c) (a.put oi.dst v) w → Q (.panic c) a w) :
    ∀ (fuel : Nat) (listed : Array Bool) (a : Act) (w : World),
      (∀ j oj, ops[j]? = some oj → j ≠ i → listed.getD j true = false → (∀ e ∈ oj.after, Region.binds .any e = true → e.on ≠ i) → oi.apart ops oj = true) →
      i ∈ Region.ready .any ops listed → YieldsIf P ops S oi v a → S w →
      wpAnyN r₀ P ops Q S N fuel (listed.setIfInBounds i true) (a.put oi.dst v) w → wpAnyN r₀ P ops Q S N (fuel + 1) listed a w := by
  intro fuel
  induction fuel with
  | zero =>
    intro listed a w _ hr hy hS H
    refine ⟨fun h => (by rw [h] at hr; cases hr), fun j hj => ?_⟩
    by_cases hji : j = i
    · subst hji; exact yif_opW hi hy hS ⟨fun _ => hS, H⟩
    · have := ready_mono hj hji
      rw [H.1] at this
      cases this
  | succ fuel ih =>
    intro listed a w hfree hr hy hS H
    refine ⟨fun h => (by rw [h] at hr; cases hr), fun j hj => ?_⟩
    by_cases hji : j = i
    · subst hji; exact yif_opW hi hy hS ⟨fun _ => hS, H⟩
    · have h1 := H.2 j (ready_mono hj hji)
      obtain ⟨hjun, oj, hoj, hall⟩ := mem_ready.1 hj
      have hjN : j < N := tailOk_spec hN hiN (mem_ready.1 hr).1 hj hoj
      have hnot : ∀ e ∈ oj.after, Region.binds .any e = true → e.on ≠ i := fun e he hb heq => by
        have h1 := hall e he hb
        have h0 := (mem_ready.1 hr).1
        rw [heq] at h1
        rcases Nat.lt_or_ge i listed.size with h' | h'
        · simp [h'] at h0 h1; rw [h0] at h1; cases h1
        · simp [Array.getElem?_eq_none h'] at h1
      have h2 := opW_putIf hoj (hfree j oj hoj hji hjun hnot) (fun cs b => hsel i oi cs b hi) (fun cs b => hsel j oj cs b hoj) (fun c => hdef j oj c hoj) hQ hy h1
      have hfree' : ∀ k ok, ops[k]? = some ok → k ≠ i → (listed.setIfInBounds j true).getD k true = false →
          (∀ e ∈ ok.after, Region.binds .any e = true → e.on ≠ i) → oi.apart ops ok = true := fun k ok hk hki hun hno => by
        refine hfree k ok hk hki ?_ hno
        by_cases hjk : j = k
        · subst hjk; exact hjun
        · rw [getD_set_ne true hjk] at hun; exact hun
      refine opW_mono (fun a' w' h3 => ?_) h2
      have hSw := h3.2.1 hjN
      refine ⟨fun _ => hSw, ih (listed.setIfInBounds j true) a' w' hfree' (ready_mono hr (Ne.symm hji)) h3.1 hSw ?_⟩
      rw [Array.setIfInBounds_comm _ _ hji]
      exact h3.2.2

def noDefer (ops : Array Oper) : Bool := ops.all fun o => match o.op with | .defer _ => false | _ => true
theorem noDefer_spec (h : noDefer ops = true) (j : Nat) (o : Oper) (c : Call) (ho : ops[j]? = some o) : o.op ≠ .defer c := by
  intro hc
  obtain ⟨hj, rfl⟩ := Array.getElem?_eq_some_iff.1 ho
  have := (Array.all_eq_true.1 h) j hj
  rw [hc] at this
  simp at this

/-! ### The order -/
inductive Stp where
  | q (i : Nat)   -- it only looks
  | e (i : Nat)   -- it acts; nothing else may come

def chk (ops : Array Oper) (N : Nat) : Array Bool → List Stp → Bool
  | listed, [] => (Region.ready .any ops listed).isEmpty
  | listed, .q i :: r => Nat.blt i N && Region.free .any ops listed i && (Region.ready .any ops listed).contains i && chk ops N (listed.setIfInBounds i true) r
  | listed, .e i :: r => (Region.ready .any ops listed == [i]) && chk ops N (listed.setIfInBounds i true) r

/-- The walk in that order. -/
def sem (r₀ : Option Nat) (P : Program) (ops : Array Oper) (Q : Exit → Act → World → Prop) (S : World → Prop) (N : Nat) : List Stp → Act → World → Prop
  | [], a, w => Q .normal a w
  | .q i :: r, a, w => S w ∧ ∃ o v, ops[i]? = some o ∧ YieldsIf P ops S o v a ∧ sem r₀ P ops Q S N r (a.put o.dst v) w
  | .e i :: r, a, w => opW r₀ P ops Q i (fun a' w' => (i < N → S w') ∧ sem r₀ P ops Q S N r a' w') a w

theorem wpAnyN_of_sem {S : World → Prop} {N : Nat} (hN : tailOk ops N = true) (hs : Region.noSelect ops = true) (hdf : noDefer ops = true) (hQ : ∀ c a w (d : Option Tmp) v, Q (.panic c) (a.put d v) w → Q (.panic c) a w) :
    ∀ (ord : List Stp) (listed : Array Bool) (a : Act) (w : World) (fuel : Nat), chk ops N listed ord = true → ord.length ≤ fuel → sem r₀ P ops Q S N ord a w → wpAnyN r₀ P ops Q S N fuel listed a w
  | [], listed, a, w, fuel, hc, _, h => by
    have hr : Region.ready .any ops listed = [] := by simpa [chk] using hc
    cases fuel with
    | zero => exact ⟨hr, h⟩
    | succ f => exact ⟨fun _ => h, by rw [hr]; simp⟩
  | .q i :: r, listed, a, w, fuel, hc, hl, h => by
    obtain ⟨hS, o, v, ho, hy, hrest⟩ := h
    simp only [chk, Bool.and_eq_true] at hc
    obtain ⟨⟨⟨h1, h2⟩, h3⟩, h4⟩ := hc
    have hiN : i < N := Nat.lt_of_succ_le (Nat.le_of_ble_eq_true h1)
    cases fuel with
    | zero => simp at hl
    | succ f =>
      exact wpAnyN_first hN hiN ho (Region.noSelect_spec hs) (noDefer_spec hdf) (fun c a w => hQ c a w _ _) f listed a w (Region.free_spec ho h2) (by simpa using h3) hy hS
        (wpAnyN_of_sem hN hs hdf hQ r _ _ _ f h4 (by simp at hl; omega) hrest)
  | .e i :: r, listed, a, w, fuel, hc, hl, h => by
    simp only [chk, Bool.and_eq_true] at hc
    obtain ⟨h1, h2⟩ := hc
    have hr : Region.ready .any ops listed = [i] := by simpa using h1
    cases fuel with
    | zero => simp at hl
    | succ f =>
      refine ⟨fun h0 => (by rw [hr] at h0; cases h0), fun j hj => ?_⟩
      rw [hr] at hj
      obtain rfl : j = i := by simpa using hj
      exact opW_mono (fun a' w' h' => ⟨h'.1, wpAnyN_of_sem hN hs hdf hQ r _ _ _ f h2 (by simp at hl; omega) h'.2⟩) h

/-- **A region that draws.** -/
theorem region_draw {id : Nat} {a : Act} {w : World} (S : World → Prop) (N : Nat) (ord : List Stp) (hm : P.follows .mixedOrders = true)
    (hc : (tailOk ops N && Region.noSelect ops && noDefer ops && chk ops N (Array.replicate ops.size false) ord && Nat.ble ord.length ops.size) = true)
    (hQ : ∀ c a w (d : Option Tmp) v, Q (.panic c) (a.put d v) w → Q (.panic c) a w)
    (h : sem r₀ P ops Q S N ord a w.drew) : (Code.region id ops true).wpIn (FW r₀) 0 P Q a w := by
  simp only [Bool.and_eq_true] at hc
  obtain ⟨⟨⟨⟨h1, h2⟩, h5⟩, h3⟩, h4⟩ := hc
  exact wpIn_region_any hm (wpAny_of_N _ _ _ _ (wpAnyN_of_sem h1 h2 h5 hQ ord _ _ _ _ h3 (Nat.le_of_ble_eq_true h4) h))

/-! ### The moves -/
variable {S : World → Prop} {N : Nat} {r : List Stp} {a : Act} {w z : World} {ss : List HL}

/-- Several that only compute, one behind the other. -/
def qs : List Nat → List Stp → List Stp
  | [], r => r
  | i :: l, r => .q i :: qs l r

/-- What S says in a region: these blocks are there. -/
def Has (l : HL) (w : World) : Prop := ∀ p ∈ l, w.heap[p.1]? = some p.2
end Go.SL

/-! What the walks' rules lean on. -/
namespace Go.SL
open Go Go.RowKit
variable {ro : Option Nat} {P : Program} {T : TT} {ops : Array Oper} {Q : Exit → Act → World → Prop} {a : Act} {w z : World} {ss : List HL} {K Y : Act → World → Prop}
theorem be {id : Nat} (h : Q .normal a w) : Exit.inBlock id Q (.exit id) a w := by
  show (if id = id then Q .normal a w else Q (.exit id) a w)
  rw [if_pos rfl]; exact h
theorem bne {id id' : Nat} (hne : (id' == id) = false) (h : Q (.exit id') a w) : Exit.inBlock id Q (.exit id') a w := by
  show (if id' = id then Q .normal a w else Q (.exit id') a w)
  rw [if_neg (by simpa using hne)]; exact h
/-! ### A slot, spelled otherwise -/
theorem put_same (a : Act) (j : Nat) (v : Value) (h : a.tmps.getD j undef = v) : a.put (some j) v = a := by
  obtain ⟨t, d⟩ := a
  simp only [Act.put]
  congr 1
  apply Array.ext_getElem?
  intro i
  rw [Array.getElem?_setIfInBounds]
  by_cases hi : j = i
  · subst hi
    by_cases hs : j < t.size
    · simp only [if_true, hs]
      subst h
      simp [hs]
    · simp [hs]
  · simp [hi]
/-! ### Results -/
def mkRes : List Value → Value
  | [v] => v
  | vs => .tuple vs.toArray

/-- A result variable holds v. -/
def RV (P : Program) (a : Act) (w : World) (r : ResultVar) (v : Value) : Prop :=
  match r with
  | .tmp t => a.tmps.getD t undef = v
  | .cell p ty => ∃ ad, a.tmps.getD p undef = .pointer (some ad) ∧ (loadVar ty ad).run P w = .ok v w

def RVs (P : Program) (a : Act) (w : World) : List ResultVar → List Value → Prop
  | [], [] => True
  | r :: rs, v :: vs => RV P a w r v ∧ RVs P a w rs vs
  | _, _ => False

def rvSem (tmps : Array Value) : ResultVar → Sem Value
  | .tmp t => pure (tmps.getD t undef)
  | .cell p t => do loadVar t (← asAddr (tmps.getD p undef))

theorem RV.run {r : ResultVar} {v : Value} (h : RV P a w r v) : (rvSem a.tmps r).run P w = .ok v w := by
  cases r with
  | tmp t =>
    have : a.tmps.getD t undef = v := h
    show (pure (a.tmps.getD t undef) : Sem Value).run P w = .ok v w
    rw [this]
    rfl
  | cell p ty =>
    obtain ⟨ad, h1, h2⟩ := h
    simp only [rvSem, Sem.run_bind, h1, asAddr, Sem.run_pure, Result.andThen, h2]

theorem RVs.run : ∀ (rs : List ResultVar) (vs : List Value), RVs P a w rs vs → (rs.mapM (rvSem a.tmps)).run P w = .ok vs w
  | [], [], _ => rfl
  | r :: rs, v :: vs, h => by
    rw [List.mapM_cons, Sem.run_bind, RV.run h.1]
    simp only [Result.andThen]
    rw [Sem.run_bind, RVs.run rs vs h.2]
    rfl
  | [], _ :: _, h => h.elim
  | _ :: _, [], h => h.elim

theorem results_run {fn : Func} {rs : List ResultVar} {vs : List Value} (hr : fn.results = rs.toArray) (h : RVs P a w rs vs) : (results fn a.tmps).run P w = .ok (mkRes vs) w := by
  have e : results fn a.tmps = (do
      let vs ← fn.results.mapM (rvSem a.tmps)
      pure (if h : vs.size = 1 then vs[0] else .tuple vs)) := rfl
  rw [e, hr, Sem.run_bind]
  have h1 := RVs.run rs vs h
  have h2 : (rs.toArray.mapM (rvSem a.tmps)).run P w = .ok vs.toArray w := by
    rw [List.mapM_toArray]
    show ((rs.mapM _ >>= fun l => pure l.toArray) : Sem (Array Value)).run P w = _
    rw [Sem.run_bind, h1]
    rfl
  rw [h2]
  simp only [Result.andThen]
  match vs with
  | [] => rfl
  | [v] => rfl
  | _ :: _ :: _ => rfl

theorem retN {fn : Func} {R : Value → World → Prop} {rs : List ResultVar} {vs : List Value} (hr : fn.results = rs.toArray) (hd : a.defers = []) (hv : RVs P a w rs vs) (h : R (mkRes vs) w) :
    bodyPost P fn (fun e w' => ∃ v, e = .returned v ∧ R v w') .ret a w := bodyPost_ret (results_run hr hv) hd ⟨_, rfl, h⟩
theorem endN {fn : Func} {R : Value → World → Prop} {rs : List ResultVar} {vs : List Value} (hr : fn.results = rs.toArray) (hd : a.defers = []) (hv : RVs P a w rs vs) (h : R (mkRes vs) w) :
    bodyPost P fn (fun e w' => ∃ v, e = .returned v ∧ R v w') .normal a w := bodyPost_end (results_run hr hv) hd ⟨_, rfl, h⟩
theorem retNC {fn : Func} {R : Ending → World → Prop} {rs : List ResultVar} {vs : List Value} (hr : fn.results = rs.toArray) (hd : a.defers = []) (hv : RVs P a w rs vs) (h : R (.returned (mkRes vs)) w) :
    bodyPost P fn R .ret a w := bodyPost_ret (results_run hr hv) hd h
theorem endNC {fn : Func} {R : Ending → World → Prop} {rs : List ResultVar} {vs : List Value} (hr : fn.results = rs.toArray) (hd : a.defers = []) (hv : RVs P a w rs vs) (h : R (.returned (mkRes vs)) w) :
    bodyPost P fn R .normal a w := bodyPost_end (results_run hr hv) hd h
theorem rv_cell (hT : TOK P T) {p ty : Nat} {b off : Nat} {cs : Array Value} {et : TypeId} {v : Value} (hO : Own z w ss) (i : Nat) (hp : a.tmps.getD p undef = .pointer (some ⟨b, off, none⟩))
    (hb : ss[i]? = some [(b, .cells cs et (0, 0))]) (hv : ldP T ty cs off = some v) : RV P a w (.cell p ty) v := ⟨_, hp, run_load_blk hT (hO.blk i hb) hv⟩
theorem has_nil : Has [] w := fun _ h => by cases h
theorem has_cons {b : Nat} {o : Obj} {l : HL} (h : w.heap[b]? = some o) (hl : Has l w) : Has ((b, o) :: l) w := fun p hp => by
  rcases List.mem_cons.1 hp with rfl | hp
  · exact h
  · exact hl p hp
theorem mem0 {α : Type} {x : α} {l : List α} : x ∈ x :: l := List.mem_cons_self
theorem memS {α : Type} {x y : α} {l : List α} (h : x ∈ l) : x ∈ y :: l := List.mem_cons_of_mem _ h
theorem two (t : Bool) {p : Prop} (ht : t = true → p) (hf : t = false → p) : p := by cases t; exact hf rfl; exact ht rfl
theorem rv_tmp {t : Tmp} {v : Value} (h : a.tmps.getD t undef = v) : RV P a w (.tmp t) v := h
theorem draw {id : Nat} (S : World → Prop) (N : Nat) (ord : List Stp) (hO : Own z w ss) (hm : P.follows .mixedOrders = true)
    (hc : (tailOk ops N && Region.noSelect ops && noDefer ops && chk ops N (Array.replicate ops.size false) ord && Nat.ble ord.length ops.size) = true)
    (hQ : ∀ c a w (d : Option Tmp) v, Q (.panic c) (a.put d v) w → Q (.panic c) a w)
    (h : ∀ w, Own z w ss → sem ro P ops Q S N ord a w) : (Code.region id ops true).wpIn (FW ro) 0 P Q a w :=
  region_draw S N ord hm hc hQ (h _ hO.drew)
end Go.SL

/-! Walks over frames of which only what matters is known. -/
namespace Go.SL
open Go Go.RowKit
variable {ro : Option Nat} {P : Program} {T : TT} {ops : Array Oper} {Q : Exit → Act → World → Prop} {w z : World} {ss : List HL}

abbrev Env := List (Nat × Value)

/-- What is known of a frame: its size, what is deferred, some slots. -/
structure Fr (nt : Nat) (ds : List Deferred) (env : Env) (a : Act) : Prop where
  size : a.tmps.size = nt
  defers : a.defers = ds
  slot : ∀ s v, env.lookup s = some v → a.tmps.getD s undef = v

/-- Like List.lookup, for the kernel. -/
def look : Env → Nat → Option Value
  | [], _ => none
  | (k, v) :: r, s => match Nat.beq s k with | true => some v | false => look r s
theorem look_eq (env : Env) (s : Nat) : env.lookup s = look env s := by
  induction env with
  | nil => rfl
  | cons p r ih =>
    obtain ⟨k, v⟩ := p
    simp only [look]
    cases h : Nat.beq s k with
    | true => have := Nat.eq_of_beq_eq_true h; subst this; simp
    | false => have hne : (s == k) = false := beq_eq_false_iff_ne.2 (fun e => by subst e; simp at h); rw [List.lookup_cons, hne]; exact ih

theorem Fr.look {nt : Nat} {ds : List Deferred} {env : Env} {a : Act} (h : Fr nt ds env a) {s : Nat} {v : Value} (hs : SL.look env s = some v) : a.tmps.getD s undef = v :=
  h.slot s v (by rw [look_eq]; exact hs)

theorem Fr.put {nt : Nat} {ds : List Deferred} {env : Env} {a : Act} (h : Fr nt ds env a) {d : Nat} (hd : d < nt) (v : Value) : Fr nt ds ((d, v) :: env) (a.put (some d) v) := by
  refine ⟨by simp [Act.put, h.size], by simp [Act.put, h.defers], fun s u hs => ?_⟩
  rw [look_eq] at hs
  simp only [SL.look] at hs
  cases hb : Nat.beq s d with
  | true =>
    have := Nat.eq_of_beq_eq_true hb
    subst this
    simp only [hb, Option.some.injEq] at hs
    subst hs
    simp [Act.put, h.size, hd]
  | false =>
    simp only [hb] at hs
    have hne : d ≠ s := fun e => by subst e; simp at hb
    have := h.look hs
    simp only [Act.put]
    rw [← this]
    simp [Array.getD_eq_getD_getElem?, Array.getElem?_setIfInBounds_ne hne]

/-- Some of the slots. -/
def restr (env : Env) : List Nat → Option Env
  | [] => some []
  | s :: l => match look env s with
    | some v => match restr env l with | some r => some ((s, v) :: r) | none => none
    | none => none

theorem restr_look {env : Env} : ∀ (l : List Nat) (env' : Env), restr env l = some env' → ∀ s v, look env' s = some v → look env s = some v
  | [], env', h, s, v, hs => by simp only [restr, Option.some.injEq] at h; subst h; simp [look] at hs
  | t :: l, env', h, s, v, hs => by
    simp only [restr] at h
    cases ht : look env t with
    | none => simp [ht] at h
    | some u =>
      simp only [ht] at h
      cases hr : restr env l with
      | none => simp [hr] at h
      | some r =>
        simp only [hr, Option.some.injEq] at h
        subst h
        simp only [look] at hs
        cases hb : Nat.beq s t with
        | true => simp only [hb, Option.some.injEq] at hs; subst hs; rw [Nat.eq_of_beq_eq_true hb]; exact ht
        | false => simp only [hb] at hs; exact restr_look l r hr s v hs

theorem Fr.restr {nt : Nat} {ds : List Deferred} {env env' : Env} {a : Act} (h : Fr nt ds env a) (l : List Nat) (hr : SL.restr env l = some env') : Fr nt ds env' a :=
  ⟨h.size, h.defers, fun s v hs => by rw [look_eq] at hs; exact h.look (restr_look l env' hr s v hs)⟩

/-! ### Operands -/
def evO (env : Env) : Operand → Option Value
  | .tmp t => look env t
  | .const v => some v
  | .global g => some (.pointer (some ⟨g, 0, none⟩))
  | .func f => some (.func (.func f) #[] #[])
def evD (env : Env) (x : Operand) : Value := (evO env x).getD undef

theorem Fr.ev {nt : Nat} {ds : List Deferred} {env : Env} {a : Act} (h : Fr nt ds env a) {x : Operand} {v : Value} (hx : evO env x = some v) : a.eval x = v := by
  cases x with
  | tmp t => exact h.look hx
  | const u => simpa [evO, Act.eval] using hx
  | global g => simpa [evO, Act.eval] using hx
  | func f => simpa [evO, Act.eval] using hx

def allIn (env : Env) (op : Op) : Bool := op.operands.toList.all fun x => (evO env x).isSome

theorem Fr.congr {nt : Nat} {ds : List Deferred} {env : Env} {a : Act} (h : Fr nt ds env a) {op : Op} (hi : allIn env op = true) : ∀ x ∈ op.operands, a.eval x = evD env x := fun x hx => by
  have := List.all_eq_true.1 hi x (by simpa using hx)
  obtain ⟨v, hv⟩ := Option.isSome_iff_exists.1 this
  unfold evD
  rw [hv]
  exact h.ev hv

/-- Is the operation carried out? none: not known. -/
def wantE (ops : Array Oper) (nt : Nat) (env : Env) (o : Oper) : Option Bool :=
  match o.guard with
  | none => some true
  | some (j, b) => match (ops[j]?).bind (·.dst) with
    | none => some false
    | some d => match look env d with
      | some (.bool t) => match Nat.blt d nt with | true => some (t == b) | false => none
      | some (.tuple _) => some false
      | _ => none

theorem Fr.want {nt : Nat} {ds : List Deferred} {env : Env} {a : Act} (h : Fr nt ds env a) {o : Oper} {b : Bool} (hw : wantE ops nt env o = some b) : wantB ops a o = b := by
  unfold wantE at hw
  unfold wantB Region.wanted yielded
  split at hw
  · rename_i hg; rw [hg]; simpa using hw
  · rename_i j b' hg
    rw [hg]
    simp only
    cases hd : (ops[j]?).bind (·.dst) with
    | none => simp only [hd, Option.some.injEq] at hw; subst hw; rfl
    | some d =>
      simp only [hd] at hw
      split at hw
      · rename_i t ht
        split at hw
        · rename_i hlt
          have hdn : d < nt := Nat.lt_of_succ_le (Nat.le_of_ble_eq_true hlt)
          have := h.look ht
          have hds : d < a.tmps.size := by rw [h.size]; exact hdn
          have h3 : a.tmps[d]? = some (.bool t) := by
            rw [Array.getD_eq_getD_getElem?] at this
            rw [Array.getElem?_eq_getElem hds] at this ⊢
            simpa using this
          simp only [Option.bind_some, h3, Option.some.injEq] at hw ⊢
          exact hw
        · simp at hw
      · rename_i vs ht
        simp only [Option.some.injEq] at hw
        subst hw
        have := h.look ht
        simp only [Option.bind_some]
        cases h4 : a.tmps[d]? with
        | none => rfl
        | some u =>
          rw [Array.getD_eq_getD_getElem?, h4] at this
          simp only [Option.getD_some] at this
          subst this
          rfl
      · simp at hw

/-! ### What only computes -/
def noSel (op : Op) : Bool := match op with | .select .. => false | _ => true

def pE (T : TT) (ops : Array Oper) (nt : Nat) : (l : List Nat) → Env → Option Env
  | [], env => some env
  | k :: l, env => match ops[k]? with
    | none => none
    | some o => match o.dst with
      | none => none
      | some d => match Nat.blt d nt with
        | false => none
        | true => match wantE ops nt env o with
          | some true => match allIn env o.op with
            | true => match pv T (evD env) o.op with | some v => pE T ops nt l ((d, v) :: env) | none => none
            | false => none
          | some false => pE T ops nt l ((d, undef) :: env)
          | none => none

theorem noSel_of_pv {ρ : Operand → Value} {op : Op} {v : Value} (h : pv T ρ op = some v) : ∀ cs b, op ≠ .select cs b := by
  rintro cs b rfl
  simp [pv] at h

/-- One that only computes. -/
theorem pv_run (hT : TOK P T) {nt : Nat} {ds : List Deferred} {env : Env} {a : Act} (h : Fr nt ds env a) {o : Oper} {v : Value} (hi : allIn env o.op = true) (hv : pv T (evD env) o.op = some v) (w : World) :
    (execOp a.eval o).run P w = .ok (.value v) w := by
  rw [execOp_congr o (noSel_of_pv hv) (h.congr hi)]
  exact pv_sound hT hv w

/-! ### The goals: over every frame of which that is known -/
variable {nt : Nat} {ds : List Deferred} {env env' : Env}

/-- A region's operations from number k on, n of them. -/
def SE (ro : Option Nat) (P : Program) (ops : Array Oper) (Q : Exit → Act → World → Prop) (k n : Nat) (nt : Nat) (ds : List Deferred) (env : Env) (w : World) : Prop := ∀ a, Fr nt ds env a → seqN ro P ops Q k n a w
/-- A piece of code. -/
def CE (ro : Option Nat) (P : Program) (c : Code) (Q : Exit → Act → World → Prop) (nt : Nat) (ds : List Deferred) (env : Env) (w : World) : Prop := ∀ a, Fr nt ds env a → c.wpIn (FW ro) 0 P Q a w
/-- A region in an order. -/
def ME (ro : Option Nat) (P : Program) (ops : Array Oper) (Q : Exit → Act → World → Prop) (S : World → Prop) (N : Nat) (r : List Stp) (nt : Nat) (ds : List Deferred) (env : Env) (w : World) : Prop := ∀ a, Fr nt ds env a → sem ro P ops Q S N r a w
/-- What holds where it ends. -/
def QE (Q : Exit → Act → World → Prop) (e : Exit) (nt : Nat) (ds : List Deferred) (env : Env) (w : World) : Prop := ∀ a, Fr nt ds env a → Q e a w

theorem pE_seq (hT : TOK P T) (n : Nat) : ∀ (m k : Nat) (env : Env), pE T ops nt (List.range' k m) env = some env' → SE ro P ops Q (k + m) n nt ds env' w → SE ro P ops Q k (n + m) nt ds env w
  | 0, k, env, h, h' => by simp only [List.range'_zero, pE, Option.some.injEq] at h; subst h; exact h'
  | m + 1, k, env, h, h' => by
    intro a hf
    show opW ro P ops Q k (seqN ro P ops Q (k + 1) (n + m)) a w
    rw [show k + (m + 1) = k + 1 + m by omega] at h'
    rw [List.range'_succ] at h
    unfold pE at h
    cases ho : ops[k]? with
    | none => simp [ho] at h
    | some o =>
      simp only [ho] at h
      cases hd : o.dst with
      | none => simp [hd] at h
      | some d =>
        simp only [hd] at h
        cases hlt : Nat.blt d nt with
        | false => simp [hlt] at h
        | true =>
          simp only [hlt] at h
          have hdn : d < nt := Nat.lt_of_succ_le (Nat.le_of_ble_eq_true hlt)
          cases hw : wantE ops nt env o with
          | none => simp [hw] at h
          | some b =>
            cases b with
            | true =>
              simp only [hw] at h
              cases hi : allIn env o.op with
              | false => simp [hi] at h
              | true =>
                simp only [hi] at h
                cases hv : pv T (evD env) o.op with
                | none => simp [hv] at h
                | some v =>
                  simp only [hv] at h
                  refine wpOp_val ho (hf.want hw) (pv_run hT hf hi hv w) ?_
                  rw [hd]
                  exact pE_seq hT n m (k + 1) _ h h' _ (hf.put hdn v)
            | false =>
              simp only [hw] at h
              refine wpOp_pass ho (hf.want hw) ?_
              rw [hd]
              exact pE_seq hT n m (k + 1) _ h h' _ (hf.put hdn undef)

def upto (k : Nat) : Nat → List Nat
  | 0 => []
  | m + 1 => k :: upto (k + 1) m
theorem upto_eq : ∀ (m k : Nat), upto k m = List.range' k m
  | 0, _ => rfl
  | m + 1, k => by rw [List.range'_succ]; exact congrArg (k :: ·) (upto_eq m (k + 1))

/-- Several that only compute; then only the slots 'live' are kept. -/
theorem SP (hT : TOK P T) (n m k : Nat) (live : List Nat) (hk : SE ro P ops Q (k + m) n nt ds env' w) (h : ((pE T ops nt (upto k m) env).bind fun e => restr e live) = some env' := by as_aux_lemma => kernel_rfl) : SE ro P ops Q k (n + m) nt ds env w := by
  cases he : pE T ops nt (upto k m) env with
  | none => simp [he] at h
  | some e =>
    simp only [he, Option.bind_some] at h
    rw [upto_eq] at he
    exact pE_seq hT n m k env he fun a hf => hk a (hf.restr live h)

theorem SS {k n : Nat} (h : ∀ a, Fr nt ds env a → opW ro P ops Q k (seqN ro P ops Q (k + 1) n) a w) : SE ro P ops Q k (n + 1) nt ds env w := h

/-- Only some slots are kept. -/
theorem keepS {k n : Nat} (live : List Nat) (hk : SE ro P ops Q k n nt ds env' w) (h : restr env live = some env' := by as_aux_lemma => kernel_rfl) : SE ro P ops Q k n nt ds env w := fun a hf => hk a (hf.restr live h)
theorem keepC {c : Code} (live : List Nat) (hk : CE ro P c Q nt ds env' w) (h : restr env live = some env' := by as_aux_lemma => kernel_rfl) : CE ro P c Q nt ds env w := fun a hf => hk a (hf.restr live h)
end Go.SL
