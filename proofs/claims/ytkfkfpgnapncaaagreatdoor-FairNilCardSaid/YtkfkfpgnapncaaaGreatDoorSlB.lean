import Derived.Test.YtkfkfpgnapncaaaGreatDoorSlA
import Derived.OrdersIn
/-! The operations of a region, one by one: those that only compute, all at once. -/
namespace Go.SL
open Go Go.RowKit

/-! ### A region's operations, in an order -/
/-- Every machine; frames of a function (r = none), or of a round of a range over a function. -/
def FW (r : Option Nat) : Fence := { Fence.wide with round := r }
/-- Operation number k is carried out, then K. -/
def opW (r : Option Nat) (P : Program) (ops : Array Oper) (Q : Exit → Act → World → Prop) (k : Nat) (K : Act → World → Prop) (a : Act) (w : World) : Prop :=
  match ops[k]? with
  | none => K a w
  | some o => if Region.wanted o (yielded ops a.tmps) then o.wpIn (FW r) 0 P a w K Q else K (a.put o.dst undef) w

theorem opW_in {r : Option Nat} {P : Program} {ops : Array Oper} {Q : Exit → Act → World → Prop} {k : Nat} {K : Act → World → Prop} {a : Act} {w : World} (h : opW r P ops Q k K a w) : wpOpIn (FW r) 0 P ops Q k K a w := by
  unfold opW at h
  unfold wpOpIn
  split
  · rename_i ho; simpa [ho] using h
  · rename_i o ho
    simp only [ho] at h
    split
    · rename_i hw; simpa [hw] using h
    · rename_i hw; simp only [hw] at h; exact ⟨fun _ _ => trivial, h⟩

theorem opW_mono {r : Option Nat} {P : Program} {ops : Array Oper} {Q : Exit → Act → World → Prop} {k : Nat} {K K' : Act → World → Prop} {a : Act} {w : World} (h : ∀ a w, K a w → K' a w) (hh : opW r P ops Q k K a w) : opW r P ops Q k K' a w := by
  unfold opW at *
  split
  · exact h _ _ (by simpa [*] using hh)
  · rename_i o ho
    simp only [ho] at hh
    split
    · rename_i hw; simp only [hw, if_true] at hh; exact Oper.wpIn_mono h hh
    · rename_i hw; simp only [hw] at hh; exact h _ _ hh

/-- From number k on, n operations. -/
def seqN (r : Option Nat) (P : Program) (ops : Array Oper) (Q : Exit → Act → World → Prop) : (k n : Nat) → Act → World → Prop
  | _, 0, a, w => Q .normal a w
  | k, n + 1, a, w => opW r P ops Q k (seqN r P ops Q (k + 1) n) a w

theorem wpOps_of_seqN {r : Option Nat} {P : Program} {ops : Array Oper} {Q : Exit → Act → World → Prop} : ∀ (n k : Nat) (a : Act) (w : World),
    seqN r P ops Q k n a w → wpOpsIn (FW r) 0 P ops Q (List.range' k n) a w
  | 0, _, _, _, h => h
  | n + 1, k, a, w, h => by
    rw [List.range'_succ, wpOpsIn_cons]
    exact opW_in (opW_mono (fun a w h => wpOps_of_seqN n (k + 1) a w h) h)

section
variable {r : Option Nat} {P : Program} {ops : Array Oper} {Q : Exit → Act → World → Prop} {a : Act} {w : World}

theorem region {id : Nat} (n : Nat) (hn : ops.size = n) (h : seqN r P ops Q 0 n a w) : (Code.region id ops false).wpIn (FW r) 0 P Q a w := by
  refine wpIn_region ?_
  rw [List.range_eq_range', hn]
  exact wpOps_of_seqN _ _ _ _ h

/-! ### What only computes -/
structure TE where
  d : TypeDesc
  size : Nat
  bytes : Nat
  zero : Option Value

abbrev TT := Nat → Option TE

structure TOK (P : Program) (T : TT) : Prop where
  ok : ∀ t e, T t = some e → P.underlying t = some e.d ∧ ∃ i, P.info? t = some i ∧ i.size = e.size ∧ i.bytes = e.bytes ∧ i.zero = e.zero

def aggD : TypeDesc → Bool
  | .struct _ | .array _ _ => true
  | _ => false

def pickV (t : Bool) (x y : Value) : Value :=
  match x, y with
  | .bool x, .bool y => .bool (bif t then x else y)
  | x, y => bif t then x else y

theorem pickV_eq (t : Bool) (x y : Value) : pickV t x y = if t then x else y := by
  unfold pickV
  split <;> cases t <;> rfl

def pPart (T : TT) (t : TypeId) (cs : Array Value) (off : Nat) : Option Value :=
  match T t with
  | none => none
  | some e => match aggD e.d with
    | true => some (.agg (cs.extract off (off + e.size)))
    | false => cs[off]?

def pInt (op : BinOp) (k : IntKind) (a b : Int) : Option Value :=
  match op with
  | .add => some (.int k (k.wrap (a + b)))
  | .sub => some (.int k (k.wrap (a - b)))
  | .mul => some (.int k (k.wrap (a * b)))
  | .and => some (.int k (k.wrap (BitVec.ofInt k.bits a &&& BitVec.ofInt k.bits b).toNat))
  | .or => some (.int k (k.wrap (BitVec.ofInt k.bits a ||| BitVec.ofInt k.bits b).toNat))
  | .xor => some (.int k (k.wrap (BitVec.ofInt k.bits a ^^^ BitVec.ofInt k.bits b).toNat))
  | .andNot => some (.int k (k.wrap (BitVec.ofInt k.bits a &&& ~~~BitVec.ofInt k.bits b).toNat))
  | .quo => match decide (b = 0) with | false => some (.int k (k.wrap (a.tdiv b))) | true => none
  | .rem => match decide (b = 0) with | false => some (.int k (a.tmod b)) | true => none
  | .eql => some (.bool (a == b))
  | .neq => some (.bool (a != b))
  | .lss => some (.bool (decide (a < b)))
  | .leq => some (.bool (decide (a ≤ b)))
  | .gtr => some (.bool (decide (a > b)))
  | .geq => some (.bool (decide (a ≥ b)))
  | _ => none

def pSh (op : BinOp) (k : IntKind) (a b : Int) : Option Value :=
  match decide (b < 0) with
  | true => none
  | false => match op with
    | .shl => some (.int k (k.wrap (a * 2 ^ (min b.toNat k.bits))))
    | .shr => some (.int k (a.fdiv (2 ^ (min b.toNat k.bits))))
    | _ => none

/-- '==' of two values that need no memory. -/
def pEq (d : TypeDesc) (x y : Value) : Option Bool :=
  match d, x, y with
  | .bool, .bool a, .bool b => some (a == b)
  | .string, .string a, .string b => some (a == b)
  | .pointer _, .pointer none, .pointer b => some b.isNone
  | .pointer _, .pointer (some _), .pointer none => some false
  | .slice _, .slice none _ _, .slice b _ _ => some b.isNone
  | .slice _, .slice (some _) _ _, .slice none _ _ => some false
  | .map _ _, .map none, .map b => some b.isNone
  | .map _ _, .map (some _), .map none => some false
  | .func _ _ _, .nilFunc, .nilFunc => some true
  | .func _ _ _, .nilFunc, .func _ _ _ => some false
  | .func _ _ _, .func _ _ _, .nilFunc => some false
  | _, _, _ => none

def isShift : BinOp → Bool
  | .shl | .shr => true
  | _ => false

def pBin (T : TT) (op : BinOp) (t : TypeId) (x y : Value) : Option Value :=
  match x, y with
  | .int k a, .int k' b => match isShift op with
    | true => pSh op k a b
    | false => match decide (k = k') with | true => pInt op k a b | false => none
  | x, y => match T t with
    | none => none
    | some e => match op with
      | .eql => match e.d with
        | .string => none
        | d => (pEq d x y).map .bool
      | .neq => match e.d with
        | .string => none
        | d => (pEq d x y).map fun b => .bool !b
      | _ => none

def pLen (d : TypeDesc) (v : Value) : Option Int :=
  match d, v with
  | .string, .string s => some s.size
  | .slice _, .slice _ n _ => some n
  | .array n _, _ => some n
  | _, _ => none
def pCap (d : TypeDesc) (v : Value) : Option Int :=
  match d, v with
  | .slice _, .slice _ _ n => some n
  | .array n _, _ => some n
  | _, _ => none

def pCall (T : TT) (ρ : Operand → Value) (c : Call) : Option Value :=
  match c.callee with
  | .builtin b => match c.argTypes[0]?, c.args[0]? with
    | some t, some x => match T t with
      | some e => match b with
        | .len => (pLen e.d (ρ x)).map (.int .i64)
        | .cap => (pCap e.d (ρ x)).map (.int .i64)
        | _ => none
      | none => none
    | _, _ => none
  | _ => none

def pv (T : TT) (ρ : Operand → Value) (op : Op) : Option Value :=
  match op with
  | .move x | .assign x => some (ρ x)
  | .pick c x y => match ρ c with | .bool t => some (pickV t (ρ x) (ρ y)) | _ => none
  | .binOp op t x y _ => pBin T op t (ρ x) (ρ y)
  | .unOp op _ x => match op, ρ x with
    | .not, .bool b => some (.bool !b)
    | .neg, .int k n => some (.int k (k.wrap (0 - n)))
    | .xor, .int k n => pInt .xor k (if k.signed then -1 else k.max) n
    | _, _ => none
  | .convert s d x => match T s, T d, ρ x with
    | some _, some e, .int _ n => match e.d with | .int k => some (.int k (k.wrap n)) | _ => none
    | _, _, _ => none
  | .nilCheck x => match ρ x with
    | .pointer (some p) => some (.pointer (some p))
    | .func (.func f) fs cs => some (.func (.func f) fs cs)
    | _ => none
  | .fieldAddr t x i => match T t, ρ x with
    | some e, .pointer (some p) => match e.d with
      | .struct fs => match fs[i]? with
        | some f => match T f.type with
          | some g => match g.size with | 0 => none | _ + 1 => some (.pointer (some (p.add f.offset)))
          | none => none
        | none => none
      | _ => none
    | _, _ => none
  | .field t x i => match T t, ρ x with
    | some e, .agg cs => match e.d with
      | .struct fs => match fs[i]? with
        | some f => pPart T f.type cs f.offset
        | none => none
      | _ => none
    | _, _ => none
  | .index t x i => match T t, ρ x, ρ i with
    | some e, .agg cs, .int _ n => match e.d with
      | .array len el => match T el with
        | some g => match decide (0 ≤ n ∧ n < len) with | true => pPart T el cs (n.toNat * g.size) | false => none
        | none => none
      | _ => none
    | _, _, _ => none
  | .indexAddr t x i => match T t, ρ x, ρ i with
    | some e, x, .int _ n => match e.d, x with
      | .array len el, .pointer (some p) => match T el with
        | some g => match decide (0 ≤ n ∧ n < len) with | true => some (.pointer (some (p.add (n.toNat * g.size)))) | false => none
        | none => none
      | .slice el, .slice (some p) len _ => match T el with
        | some g => match decide (0 ≤ n ∧ n < len) with | true => some (.pointer (some (p.add (n.toNat * g.size)))) | false => none
        | none => none
      | _, _ => none
    | _, _, _ => none
  | .extract x i => match ρ x with | .tuple vs => vs[i]? | _ => none
  | .makeFunc fn f c => some (.func fn (f.map ρ) (c.map ρ))
  | .makeInterface t x => match T t with
    | some e => match e.d with | .interface _ => none | _ => some (.iface t (ρ x))
    | none => none
  | .build t parts => match T t with
    | some e => match e.zero with
      | some z => match e.d with
        | .struct fs => match fs.toList.mapM (fun f => (T f.type).map fun g => (f.offset, g.size)) with
          | some places => (Instr.fill (places[·]?) z.cells (parts.map fun (i, x) => (i, ρ x)).toList).map .agg
          | none => none
        | .array _ el => match T el with
          | some g => (Instr.fill (fun i => some (i * g.size, g.size)) z.cells (parts.map fun (i, x) => (i, ρ x)).toList).map .agg
          | none => none
        | _ => none
      | none => none
    | none => none
  | .call c => pCall T ρ c
  | _ => none

end
end Go.SL
