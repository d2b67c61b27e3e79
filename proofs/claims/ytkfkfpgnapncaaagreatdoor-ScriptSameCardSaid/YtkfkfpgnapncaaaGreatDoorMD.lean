import Derived.Test.YtkfkfpgnapncaaaGreatDoorMC
import Derived.Test.YtkfkfpgnapncaaaGreatDoorProg
set_option linter.unusedSimpArgs false
set_option linter.unusedVariables false
/-! The program's structs, as records; how each lies in cells. -/
namespace Go.SL
open Go
def fz : Nat → Int := fun _ => 0
def fb : Nat → Bool := fun _ => false
def upd {α : Type} (f : Nat → α) (i : Nat) (x : α) : Nat → α := fun j => bif Nat.beq j i then x else f j
def vec4 {α : Type} (a b c d : α) : Nat → α := fun | 0 => a | 1 => b | 2 => c | _ => d
def vec16 {α : Type} (a0 a1 a2 a3 a4 a5 a6 a7 a8 a9 a10 a11 a12 a13 a14 a15 : α) : Nat → α := fun | 0 => a0 | 1 => a1 | 2 => a2 | 3 => a3 | 4 => a4 | 5 => a5 | 6 => a6 | 7 => a7 | 8 => a8 | 9 => a9 | 10 => a10 | 11 => a11 | 12 => a12 | 13 => a13 | 14 => a14 | _ => a15
def encB16 (f : Nat → Int) : List Value := [.int .u8 (f 0), .int .u8 (f 1), .int .u8 (f 2), .int .u8 (f 3), .int .u8 (f 4), .int .u8 (f 5), .int .u8 (f 6), .int .u8 (f 7), .int .u8 (f 8), .int .u8 (f 9), .int .u8 (f 10), .int .u8 (f 11), .int .u8 (f 12), .int .u8 (f 13), .int .u8 (f 14), .int .u8 (f 15)]

structure Choice where
  kind : Int
  hart : Int
  pick : Int

instance : Inhabited Choice := ⟨⟨0, 0, 0⟩⟩

def encChoice (x : Choice) : List Value := [.int .i64 x.kind, .int .i64 x.hart, .int .i64 x.pick]

theorem encChoice_len (x : Choice) : (encChoice x).length = 3 := rfl

structure Ran where
  dids : Value
  harts : Value
  memory : Value
  rests : Bool

instance : Inhabited Ran := ⟨⟨undef, undef, undef, false⟩⟩

def encRan (x : Ran) : List Value := [x.dids, x.harts, x.memory, .bool x.rests]

theorem encRan_len (x : Ran) : (encRan x).length = 4 := rfl

structure Access where
  kind : Int
  addr : Int
  width : Int
  value : Int
  op : Int
  aq : Bool
  rl : Bool

instance : Inhabited Access := ⟨⟨0, 0, 0, 0, 0, false, false⟩⟩

def encAccess (x : Access) : List Value := [.int .i64 x.kind, .int .u32 x.addr, .int .i64 x.width, .int .u32 x.value, .int .i64 x.op, .bool x.aq, .bool x.rl]

theorem encAccess_len (x : Access) : (encAccess x).length = 7 := rfl

structure Answer where
  value : Int
  ok : Bool

instance : Inhabited Answer := ⟨⟨0, false⟩⟩

def encAnswer (x : Answer) : List Value := [.int .u32 x.value, .bool x.ok]

theorem encAnswer_len (x : Answer) : (encAnswer x).length = 2 := rfl

structure Commit where
  pc : Int
  word : Int
  access : Access
  answer : Answer
  rd : Int
  value : Int
  cause : Int

instance : Inhabited Commit := ⟨⟨0, 0, default, default, 0, 0, 0⟩⟩

def encCommit (x : Commit) : List Value := [.int .u32 x.pc, .int .u32 x.word, .int .i64 x.access.kind, .int .u32 x.access.addr, .int .i64 x.access.width, .int .u32 x.access.value, .int .i64 x.access.op, .bool x.access.aq, .bool x.access.rl, .int .u32 x.answer.value, .bool x.answer.ok, .int .i64 x.rd, .int .u32 x.value, .int .i64 x.cause]

theorem encCommit_len (x : Commit) : (encCommit x).length = 14 := rfl

structure Store where
  addr : Int
  width : Int
  value : Int

instance : Inhabited Store := ⟨⟨0, 0, 0⟩⟩

def encStore (x : Store) : List Value := [.int .u32 x.addr, .int .i64 x.width, .int .u32 x.value]

theorem encStore_len (x : Store) : (encStore x).length = 3 := rfl

structure Did where
  kind : Int
  hart : Int
  commit : Commit
  store : Store
  own : Int

instance : Inhabited Did := ⟨⟨0, 0, default, default, 0⟩⟩

def encDid (x : Did) : List Value := [.int .i64 x.kind, .int .i64 x.hart, .int .u32 x.commit.pc, .int .u32 x.commit.word, .int .i64 x.commit.access.kind, .int .u32 x.commit.access.addr, .int .i64 x.commit.access.width, .int .u32 x.commit.access.value, .int .i64 x.commit.access.op, .bool x.commit.access.aq, .bool x.commit.access.rl, .int .u32 x.commit.answer.value, .bool x.commit.answer.ok, .int .i64 x.commit.rd, .int .u32 x.commit.value, .int .i64 x.commit.cause, .int .u32 x.store.addr, .int .i64 x.store.width, .int .u32 x.store.value, .int .i64 x.own]

theorem encDid_len (x : Did) : (encDid x).length = 20 := rfl

structure FairRace where
  machine : Option Addr
  on : Nat → Bool

instance : Inhabited FairRace := ⟨⟨none, fb⟩⟩

def encFairRace (x : FairRace) : List Value := [.pointer x.machine, .bool (x.on 0), .bool (x.on 1), .bool (x.on 2), .bool (x.on 3)]

theorem encFairRace_len (x : FairRace) : (encFairRace x).length = 5 := rfl

structure Hart where
  id : Int
  pc : Int
  regs : Nat → Int
  cause : Int

instance : Inhabited Hart := ⟨⟨0, 0, fz, 0⟩⟩

def encHart (x : Hart) : List Value := [.int .i64 x.id, .int .u32 x.pc, .int .u32 (x.regs 0), .int .u32 (x.regs 1), .int .u32 (x.regs 2), .int .u32 (x.regs 3), .int .u32 (x.regs 4), .int .u32 (x.regs 5), .int .u32 (x.regs 6), .int .u32 (x.regs 7), .int .u32 (x.regs 8), .int .u32 (x.regs 9), .int .u32 (x.regs 10), .int .u32 (x.regs 11), .int .u32 (x.regs 12), .int .u32 (x.regs 13), .int .u32 (x.regs 14), .int .u32 (x.regs 15), .int .u32 (x.regs 16), .int .u32 (x.regs 17), .int .u32 (x.regs 18), .int .u32 (x.regs 19), .int .u32 (x.regs 20), .int .u32 (x.regs 21), .int .u32 (x.regs 22), .int .u32 (x.regs 23), .int .u32 (x.regs 24), .int .u32 (x.regs 25), .int .u32 (x.regs 26), .int .u32 (x.regs 27), .int .u32 (x.regs 28), .int .u32 (x.regs 29), .int .u32 (x.regs 30), .int .u32 (x.regs 31), .int .i64 x.cause]

theorem encHart_len (x : Hart) : (encHart x).length = 35 := rfl

structure Setup where
  codes : Value
  memory : Value
  sets : Int
  ways : Int

instance : Inhabited Setup := ⟨⟨undef, undef, 0, 0⟩⟩

def encSetup (x : Setup) : List Value := [x.codes, x.memory, .int .i64 x.sets, .int .i64 x.ways]

theorem encSetup_len (x : Setup) : (encSetup x).length = 4 := rfl

structure MachineMachine where
  parts : Option Addr

instance : Inhabited MachineMachine := ⟨⟨none⟩⟩

def encMachineMachine (x : MachineMachine) : List Value := [.pointer x.parts]

theorem encMachineMachine_len (x : MachineMachine) : (encMachineMachine x).length = 1 := rfl

structure MachineParts where
  cores : Value
  caches : Value
  n : Option Addr
  h : Option Addr

instance : Inhabited MachineParts := ⟨⟨undef, undef, none, none⟩⟩

def encMachineParts (x : MachineParts) : List Value := [x.cores, x.caches, .pointer x.n, .pointer x.h]

theorem encMachineParts_len (x : MachineParts) : (encMachineParts x).length = 4 := rfl

structure ScriptRun where
  machine : Option Addr
  dids : Value

instance : Inhabited ScriptRun := ⟨⟨none, undef⟩⟩

def encScriptRun (x : ScriptRun) : List Value := [.pointer x.machine, x.dids]

theorem encScriptRun_len (x : ScriptRun) : (encScriptRun x).length = 2 := rfl

structure CoreState where
  h : Hart
  code : Value
  size : Int

instance : Inhabited CoreState := ⟨⟨default, undef, 0⟩⟩

def encCoreState (x : CoreState) : List Value := [.int .i64 x.h.id, .int .u32 x.h.pc, .int .u32 (x.h.regs 0), .int .u32 (x.h.regs 1), .int .u32 (x.h.regs 2), .int .u32 (x.h.regs 3), .int .u32 (x.h.regs 4), .int .u32 (x.h.regs 5), .int .u32 (x.h.regs 6), .int .u32 (x.h.regs 7), .int .u32 (x.h.regs 8), .int .u32 (x.h.regs 9), .int .u32 (x.h.regs 10), .int .u32 (x.h.regs 11), .int .u32 (x.h.regs 12), .int .u32 (x.h.regs 13), .int .u32 (x.h.regs 14), .int .u32 (x.h.regs 15), .int .u32 (x.h.regs 16), .int .u32 (x.h.regs 17), .int .u32 (x.h.regs 18), .int .u32 (x.h.regs 19), .int .u32 (x.h.regs 20), .int .u32 (x.h.regs 21), .int .u32 (x.h.regs 22), .int .u32 (x.h.regs 23), .int .u32 (x.h.regs 24), .int .u32 (x.h.regs 25), .int .u32 (x.h.regs 26), .int .u32 (x.h.regs 27), .int .u32 (x.h.regs 28), .int .u32 (x.h.regs 29), .int .u32 (x.h.regs 30), .int .u32 (x.h.regs 31), .int .i64 x.h.cause, x.code, .int .i64 x.size]

theorem encCoreState_len (x : CoreState) : (encCoreState x).length = 37 := rfl

structure CoreCore where
  state : CoreState
  b : Option Addr
  first : Int
  reserved : Option Addr

instance : Inhabited CoreCore := ⟨⟨default, none, 0, none⟩⟩

def encCoreCore (x : CoreCore) : List Value := [.int .i64 x.state.h.id, .int .u32 x.state.h.pc, .int .u32 (x.state.h.regs 0), .int .u32 (x.state.h.regs 1), .int .u32 (x.state.h.regs 2), .int .u32 (x.state.h.regs 3), .int .u32 (x.state.h.regs 4), .int .u32 (x.state.h.regs 5), .int .u32 (x.state.h.regs 6), .int .u32 (x.state.h.regs 7), .int .u32 (x.state.h.regs 8), .int .u32 (x.state.h.regs 9), .int .u32 (x.state.h.regs 10), .int .u32 (x.state.h.regs 11), .int .u32 (x.state.h.regs 12), .int .u32 (x.state.h.regs 13), .int .u32 (x.state.h.regs 14), .int .u32 (x.state.h.regs 15), .int .u32 (x.state.h.regs 16), .int .u32 (x.state.h.regs 17), .int .u32 (x.state.h.regs 18), .int .u32 (x.state.h.regs 19), .int .u32 (x.state.h.regs 20), .int .u32 (x.state.h.regs 21), .int .u32 (x.state.h.regs 22), .int .u32 (x.state.h.regs 23), .int .u32 (x.state.h.regs 24), .int .u32 (x.state.h.regs 25), .int .u32 (x.state.h.regs 26), .int .u32 (x.state.h.regs 27), .int .u32 (x.state.h.regs 28), .int .u32 (x.state.h.regs 29), .int .u32 (x.state.h.regs 30), .int .u32 (x.state.h.regs 31), .int .i64 x.state.h.cause, x.state.code, .int .i64 x.state.size, .pointer x.b, .int .i64 x.first, .pointer x.reserved]

theorem encCoreCore_len (x : CoreCore) : (encCoreCore x).length = 40 := rfl

structure NetNet where
  l : Value
  most : Int

instance : Inhabited NetNet := ⟨⟨undef, 0⟩⟩

def encNetNet (x : NetNet) : List Value := [x.l, .int .i64 x.most]

theorem encNetNet_len (x : NetNet) : (encNetNet x).length = 2 := rfl

structure HomeHome where
  m : Option Addr
  entries : Value

instance : Inhabited HomeHome := ⟨⟨none, undef⟩⟩

def encHomeHome (x : HomeHome) : List Value := [.pointer x.m, x.entries]

theorem encHomeHome_len (x : HomeHome) : (encHomeHome x).length = 2 := rfl

structure Entry where
  owner : Int
  sharers : Nat → Bool
  busy : Bool
  asks : Int
  kind : Int
  waits : Int
  told : Bool
  queue : Value

instance : Inhabited Entry := ⟨⟨0, fb, false, 0, 0, 0, false, undef⟩⟩

def encEntry (x : Entry) : List Value := [.int .i64 x.owner, .bool (x.sharers 0), .bool (x.sharers 1), .bool (x.sharers 2), .bool (x.sharers 3), .bool x.busy, .int .i64 x.asks, .int .i64 x.kind, .int .i64 x.waits, .bool x.told, x.queue]

theorem encEntry_len (x : Entry) : (encEntry x).length = 11 := rfl

structure CacheCache where
  id : Int
  l : Option Addr
  asked : Option Addr
  given : Option Addr

instance : Inhabited CacheCache := ⟨⟨0, none, none, none⟩⟩

def encCacheCache (x : CacheCache) : List Value := [.int .i64 x.id, .pointer x.l, .pointer x.asked, .pointer x.given]

theorem encCacheCache_len (x : CacheCache) : (encCacheCache x).length = 4 := rfl

structure Line where
  number : Int
  state : Int
  bytes : Nat → Int

instance : Inhabited Line := ⟨⟨0, 0, fz⟩⟩

def encLine (x : Line) : List Value := [.int .u32 x.number, .int .i64 x.state, .int .u8 (x.bytes 0), .int .u8 (x.bytes 1), .int .u8 (x.bytes 2), .int .u8 (x.bytes 3), .int .u8 (x.bytes 4), .int .u8 (x.bytes 5), .int .u8 (x.bytes 6), .int .u8 (x.bytes 7), .int .u8 (x.bytes 8), .int .u8 (x.bytes 9), .int .u8 (x.bytes 10), .int .u8 (x.bytes 11), .int .u8 (x.bytes 12), .int .u8 (x.bytes 13), .int .u8 (x.bytes 14), .int .u8 (x.bytes 15)]

theorem encLine_len (x : Line) : (encLine x).length = 18 := rfl

structure ImageImage where
  b : Value

instance : Inhabited ImageImage := ⟨⟨undef⟩⟩

def encImageImage (x : ImageImage) : List Value := [x.b]

theorem encImageImage_len (x : ImageImage) : (encImageImage x).length = 1 := rfl

structure Msg where
  kind : Int
  from_ : Int
  to_ : Int
  line : Int
  bytes : Nat → Int

instance : Inhabited Msg := ⟨⟨0, 0, 0, 0, fz⟩⟩

def encMsg (x : Msg) : List Value := [.int .i64 x.kind, .int .i64 x.from_, .int .i64 x.to_, .int .u32 x.line, .int .u8 (x.bytes 0), .int .u8 (x.bytes 1), .int .u8 (x.bytes 2), .int .u8 (x.bytes 3), .int .u8 (x.bytes 4), .int .u8 (x.bytes 5), .int .u8 (x.bytes 6), .int .u8 (x.bytes 7), .int .u8 (x.bytes 8), .int .u8 (x.bytes 9), .int .u8 (x.bytes 10), .int .u8 (x.bytes 11), .int .u8 (x.bytes 12), .int .u8 (x.bytes 13), .int .u8 (x.bytes 14), .int .u8 (x.bytes 15)]

theorem encMsg_len (x : Msg) : (encMsg x).length = 20 := rfl

structure BufferWaiting where
  store : Store

instance : Inhabited BufferWaiting := ⟨⟨default⟩⟩

def encBufferWaiting (x : BufferWaiting) : List Value := [.int .u32 x.store.addr, .int .i64 x.store.width, .int .u32 x.store.value]

theorem encBufferWaiting_len (x : BufferWaiting) : (encBufferWaiting x).length = 3 := rfl

structure BufferBuffer where
  ring : Nat → BufferWaiting
  first : Int
  n : Int

instance : Inhabited BufferBuffer := ⟨⟨fun _ => default, 0, 0⟩⟩

def encBufferBuffer (x : BufferBuffer) : List Value := [.int .u32 (((x.ring 0).store).addr), .int .i64 (((x.ring 0).store).width), .int .u32 (((x.ring 0).store).value), .int .u32 (((x.ring 1).store).addr), .int .i64 (((x.ring 1).store).width), .int .u32 (((x.ring 1).store).value), .int .u32 (((x.ring 2).store).addr), .int .i64 (((x.ring 2).store).width), .int .u32 (((x.ring 2).store).value), .int .u32 (((x.ring 3).store).addr), .int .i64 (((x.ring 3).store).width), .int .u32 (((x.ring 3).store).value), .int .i64 x.first, .int .i64 x.n]

theorem encBufferBuffer_len (x : BufferBuffer) : (encBufferBuffer x).length = 14 := rfl

structure LinesLines where
  sets : Value
  ways : Int

instance : Inhabited LinesLines := ⟨⟨undef, 0⟩⟩

def encLinesLines (x : LinesLines) : List Value := [x.sets, .int .i64 x.ways]

theorem encLinesLines_len (x : LinesLines) : (encLinesLines x).length = 2 := rfl

structure CoreAct where
  core : Option Addr
  m : Option Addr
  pick : Int
  word : Int
  a : Access

instance : Inhabited CoreAct := ⟨⟨none, none, 0, 0, default⟩⟩

def encCoreAct (x : CoreAct) : List Value := [.pointer x.core, .pointer x.m, .int .i64 x.pick, .int .u32 x.word, .int .i64 x.a.kind, .int .u32 x.a.addr, .int .i64 x.a.width, .int .u32 x.a.value, .int .i64 x.a.op, .bool x.a.aq, .bool x.a.rl]

theorem encCoreAct_len (x : CoreAct) : (encCoreAct x).length = 11 := rfl

structure HomeStop where
  why : Int

instance : Inhabited HomeStop := ⟨⟨0⟩⟩

def encHomeStop (x : HomeStop) : List Value := [.int .i64 x.why]

theorem encHomeStop_len (x : HomeStop) : (encHomeStop x).length = 1 := rfl

structure HomeSent where
  l : Value

instance : Inhabited HomeSent := ⟨⟨undef⟩⟩

def encHomeSent (x : HomeSent) : List Value := [x.l]

theorem encHomeSent_len (x : HomeSent) : (encHomeSent x).length = 1 := rfl

structure HomeWork where
  sent : HomeSent
  entry : Option Addr
  h : Option Addr
  line : Int

instance : Inhabited HomeWork := ⟨⟨default, none, none, 0⟩⟩

def encHomeWork (x : HomeWork) : List Value := [x.sent.l, .pointer x.entry, .pointer x.h, .int .u32 x.line]

theorem encHomeWork_len (x : HomeWork) : (encHomeWork x).length = 4 := rfl

structure Inst where
  op : Int
  rd : Int
  rs1 : Int
  rs2 : Int
  imm : Int
  aq : Bool
  rl : Bool

instance : Inhabited Inst := ⟨⟨0, 0, 0, 0, 0, false, false⟩⟩

def encInst (x : Inst) : List Value := [.int .i64 x.op, .int .i64 x.rd, .int .i64 x.rs1, .int .i64 x.rs2, .int .u32 x.imm, .bool x.aq, .bool x.rl]

theorem encInst_len (x : Inst) : (encInst x).length = 7 := rfl

structure CoreWait where
  l : Value

instance : Inhabited CoreWait := ⟨⟨undef⟩⟩

def encCoreWait (x : CoreWait) : List Value := [x.l]

theorem encCoreWait_len (x : CoreWait) : (encCoreWait x).length = 1 := rfl

structure NetWant where
  home : Bool
  bytes : Bool

instance : Inhabited NetWant := ⟨⟨false, false⟩⟩

def encNetWant (x : NetWant) : List Value := [.bool x.home, .bool x.bytes]

theorem encNetWant_len (x : NetWant) : (encNetWant x).length = 2 := rfl

structure CacheStop where
  why : Int

instance : Inhabited CacheStop := ⟨⟨0⟩⟩

def encCacheStop (x : CacheStop) : List Value := [.int .i64 x.why]

theorem encCacheStop_len (x : CacheStop) : (encCacheStop x).length = 1 := rfl

structure HartStop where
  why : Int

instance : Inhabited HartStop := ⟨⟨0⟩⟩

def encHartStop (x : HartStop) : List Value := [.int .i64 x.why]

theorem encHartStop_len (x : HartStop) : (encHartStop x).length = 1 := rfl

structure IsaForm where
  mask : Int
  rd : Bool
  rs1 : Bool
  rs2 : Bool
  a : Bool
  may : Value
  put : Value
  take : Value
  told : Value

instance : Inhabited IsaForm := ⟨⟨0, false, false, false, false, undef, undef, undef, undef⟩⟩

def encIsaForm (x : IsaForm) : List Value := [.int .u32 x.mask, .bool x.rd, .bool x.rs1, .bool x.rs2, .bool x.a, x.may, x.put, x.take, x.told]

theorem encIsaForm_len (x : IsaForm) : (encIsaForm x).length = 9 := rfl

structure IsaRow where
  op : Int
  name : ByteArray
  form : IsaForm
  bits : Int

instance : Inhabited IsaRow := ⟨⟨0, ⟨#[]⟩, default, 0⟩⟩

def encIsaRow (x : IsaRow) : List Value := [.int .i64 x.op, .string x.name, .int .u32 x.form.mask, .bool x.form.rd, .bool x.form.rs1, .bool x.form.rs2, .bool x.form.a, x.form.may, x.form.put, x.form.take, x.form.told, .int .u32 x.bits]

theorem encIsaRow_len (x : IsaRow) : (encIsaRow x).length = 12 := rfl

end Go.SL
/-! The types of the program that operations name: what each is, its size, its zero value. -/
namespace Go.SL
open Go Go.RowKit Go.Proofs
structure TROK (P : Program) (t : TypeId) (e : TE) : Prop where
  u : P.underlying t = some e.d
  i : ∃ i, P.info? t = some i ∧ i.size = e.size ∧ i.bytes = e.bytes ∧ i.zero = e.zero
theorem info_of_run {P : Program} {t : TypeId} {i : TypeInfo} (h : ∀ w, (typeInfo t).run P w = .ok i w) : P.info? t = some i := by
  have := h default
  unfold typeInfo at this
  rw [Sem.run_bind] at this
  simp only [run_program, Result.andThen] at this
  cases hq : P.info? t with
  | none => rw [hq] at this; simp at this
  | some j => rw [hq] at this; simp at this; rw [this]
inductive Tr where
  | leaf
  | node (k : Nat) (e : TE) (l r : Tr)
def Tr.find : Tr → Nat → Option TE
  | .leaf, _ => none
  | .node k e l r, t => match Nat.blt t k with
    | true => l.find t
    | false => match Nat.beq t k with
      | true => some e
      | false => r.find t
def Tr.All (P : Program) : Tr → Prop
  | .leaf => True
  | .node k e l r => TROK P k e ∧ l.All P ∧ r.All P
theorem Tr.find_ok {P : Program} : ∀ (tr : Tr), tr.All P → ∀ t e, tr.find t = some e → TROK P t e
  | .leaf, _, t, e, h => by simp [Tr.find] at h
  | .node k f l r, ha, t, e, h => by
    unfold Tr.find at h
    split at h
    · exact l.find_ok ha.2.1 t e h
    · split at h
      · rename_i hb
        simp only [Option.some.injEq] at h
        subst h
        rw [Nat.eq_of_beq_eq_true hb]
        exact ha.1
      · exact r.find_ok ha.2.2 t e h
def te2 : TE := ⟨.int .i64, 1, 8, some (.int .i64 0)⟩
theorem te2_ok : TROK Tryz.prog 2 te2 := ⟨Tryz.underlying2, ⟨_, info_of_run Tryz.typeInfo2, rfl, rfl, rfl⟩⟩
def te3 : TE := ⟨.int .i64, 1, 8, some (.int .i64 0)⟩
theorem te3_ok : TROK Tryz.prog 3 te3 := ⟨Tryz.underlying3, ⟨_, info_of_run Tryz.typeInfo3, rfl, rfl, rfl⟩⟩
def te4 : TE := ⟨.bool, 1, 1, some (.bool false)⟩
theorem te4_ok : TROK Tryz.prog 4 te4 := ⟨Tryz.underlying4, ⟨_, info_of_run Tryz.typeInfo4, rfl, rfl, rfl⟩⟩
def te5 : TE := ⟨.int .u8, 1, 1, some (.int .u8 0)⟩
theorem te5_ok : TROK Tryz.prog 5 te5 := ⟨Tryz.underlying5, ⟨_, info_of_run Tryz.typeInfo5, rfl, rfl, rfl⟩⟩
def te9 : TE := ⟨.string, 1, 16, some (.string ⟨#[]⟩)⟩
theorem te9_ok : TROK Tryz.prog 9 te9 := ⟨Tryz.underlying9, ⟨_, info_of_run Tryz.typeInfo9, rfl, rfl, rfl⟩⟩
def te21 : TE := ⟨.int .i32, 1, 4, some (.int .i32 0)⟩
theorem te21_ok : TROK Tryz.prog 21 te21 := ⟨Tryz.underlying21, ⟨_, info_of_run Tryz.typeInfo21, rfl, rfl, rfl⟩⟩
def te22 : TE := ⟨.slice 73, 1, 24, some (.slice none 0 0)⟩
theorem te22_ok : TROK Tryz.prog 22 te22 := ⟨Tryz.underlying22, ⟨_, info_of_run Tryz.typeInfo22, rfl, rfl, rfl⟩⟩
def te23 : TE := ⟨.int .i64, 1, 8, some (.int .i64 0)⟩
theorem te23_ok : TROK Tryz.prog 23 te23 := ⟨Tryz.underlying23, ⟨_, info_of_run Tryz.typeInfo23, rfl, rfl, rfl⟩⟩
def te29 : TE := ⟨.slice 3, 1, 24, some (.slice none 0 0)⟩
theorem te29_ok : TROK Tryz.prog 29 te29 := ⟨Tryz.underlying29, ⟨_, info_of_run Tryz.typeInfo29, rfl, rfl, rfl⟩⟩
def te35 : TE := ⟨.slice 5, 1, 24, some (.slice none 0 0)⟩
theorem te35_ok : TROK Tryz.prog 35 te35 := ⟨Tryz.underlying35, ⟨_, info_of_run Tryz.typeInfo35, rfl, rfl, rfl⟩⟩
def te36 : TE := ⟨.slice 39, 1, 24, some (.slice none 0 0)⟩
theorem te36_ok : TROK Tryz.prog 36 te36 := ⟨Tryz.underlying36, ⟨_, info_of_run Tryz.typeInfo36, rfl, rfl, rfl⟩⟩
def te37 : TE := ⟨.int .i64, 1, 8, some (.int .i64 0)⟩
theorem te37_ok : TROK Tryz.prog 37 te37 := ⟨Tryz.underlying37, ⟨_, info_of_run Tryz.typeInfo37, rfl, rfl, rfl⟩⟩
def te39 : TE := ⟨.struct #[⟨"Kind", 37, 0, false, "", "", 0⟩, ⟨"Hart", 3, 1, false, "", "", 8⟩, ⟨"Pick", 3, 2, false, "", "", 16⟩], 3, 24, some (.agg #[.int .i64 0, .int .i64 0, .int .i64 0])⟩
theorem te39_ok : TROK Tryz.prog 39 te39 := ⟨Tryz.underlying39, ⟨_, info_of_run Tryz.typeInfo39, rfl, rfl, rfl⟩⟩
def te49 : TE := ⟨.func #[39] #[4] false, 1, 8, some (.nilFunc)⟩
theorem te49_ok : TROK Tryz.prog 49 te49 := ⟨Tryz.underlying49, ⟨_, info_of_run Tryz.typeInfo49, rfl, rfl, rfl⟩⟩
def te50 : TE := ⟨.slice 85, 1, 24, some (.slice none 0 0)⟩
theorem te50_ok : TROK Tryz.prog 50 te50 := ⟨Tryz.underlying50, ⟨_, info_of_run Tryz.typeInfo50, rfl, rfl, rfl⟩⟩
def te52 : TE := ⟨.struct #[⟨"Dids", 22, 0, false, "", "", 0⟩, ⟨"Harts", 50, 1, false, "", "", 24⟩, ⟨"Memory", 35, 2, false, "", "", 48⟩, ⟨"Rests", 4, 3, false, "", "", 72⟩], 4, 80, some (.agg #[.slice none 0 0, .slice none 0 0, .slice none 0 0, .bool false])⟩
theorem te52_ok : TROK Tryz.prog 52 te52 := ⟨Tryz.underlying52, ⟨_, info_of_run Tryz.typeInfo52, rfl, rfl, rfl⟩⟩
def te54 : TE := ⟨.pointer 106, 1, 8, some (.pointer none)⟩
theorem te54_ok : TROK Tryz.prog 54 te54 := ⟨Tryz.underlying54, ⟨_, info_of_run Tryz.typeInfo54, rfl, rfl, rfl⟩⟩
def te57 : TE := ⟨.func #[49] #[] false, 1, 8, some (.nilFunc)⟩
theorem te57_ok : TROK Tryz.prog 57 te57 := ⟨Tryz.underlying57, ⟨_, info_of_run Tryz.typeInfo57, rfl, rfl, rfl⟩⟩
def te59 : TE := ⟨.int .i64, 1, 8, some (.int .i64 0)⟩
theorem te59_ok : TROK Tryz.prog 59 te59 := ⟨Tryz.underlying59, ⟨_, info_of_run Tryz.typeInfo59, rfl, rfl, rfl⟩⟩
def te60 : TE := ⟨.int .u32, 1, 4, some (.int .u32 0)⟩
theorem te60_ok : TROK Tryz.prog 60 te60 := ⟨Tryz.underlying60, ⟨_, info_of_run Tryz.typeInfo60, rfl, rfl, rfl⟩⟩
def te61 : TE := ⟨.int .i64, 1, 8, some (.int .i64 0)⟩
theorem te61_ok : TROK Tryz.prog 61 te61 := ⟨Tryz.underlying61, ⟨_, info_of_run Tryz.typeInfo61, rfl, rfl, rfl⟩⟩
def te62 : TE := ⟨.int .i64, 1, 8, some (.int .i64 0)⟩
theorem te62_ok : TROK Tryz.prog 62 te62 := ⟨Tryz.underlying62, ⟨_, info_of_run Tryz.typeInfo62, rfl, rfl, rfl⟩⟩
def te64 : TE := ⟨.struct #[⟨"Kind", 61, 0, false, "", "", 0⟩, ⟨"Addr", 60, 1, false, "", "", 8⟩, ⟨"Width", 3, 2, false, "", "", 16⟩, ⟨"Value", 60, 3, false, "", "", 24⟩, ⟨"Op", 62, 4, false, "", "", 32⟩, ⟨"Aq", 4, 5, false, "", "", 40⟩, ⟨"Rl", 4, 6, false, "", "", 41⟩], 7, 48, some (.agg #[.int .i64 0, .int .u32 0, .int .i64 0, .int .u32 0, .int .i64 0, .bool false, .bool false])⟩
theorem te64_ok : TROK Tryz.prog 64 te64 := ⟨Tryz.underlying64, ⟨_, info_of_run Tryz.typeInfo64, rfl, rfl, rfl⟩⟩
def te66 : TE := ⟨.struct #[⟨"Value", 60, 0, false, "", "", 0⟩, ⟨"Ok", 4, 1, false, "", "", 4⟩], 2, 8, some (.agg #[.int .u32 0, .bool false])⟩
theorem te66_ok : TROK Tryz.prog 66 te66 := ⟨Tryz.underlying66, ⟨_, info_of_run Tryz.typeInfo66, rfl, rfl, rfl⟩⟩
def te67 : TE := ⟨.int .i64, 1, 8, some (.int .i64 0)⟩
theorem te67_ok : TROK Tryz.prog 67 te67 := ⟨Tryz.underlying67, ⟨_, info_of_run Tryz.typeInfo67, rfl, rfl, rfl⟩⟩
def te69 : TE := ⟨.struct #[⟨"Pc", 60, 0, false, "", "", 0⟩, ⟨"Word", 60, 1, false, "", "", 4⟩, ⟨"Access", 64, 2, false, "", "", 8⟩, ⟨"Answer", 66, 9, false, "", "", 56⟩, ⟨"Rd", 3, 11, false, "", "", 64⟩, ⟨"Value", 60, 12, false, "", "", 72⟩, ⟨"Cause", 67, 13, false, "", "", 80⟩], 14, 88, some (.agg #[.int .u32 0, .int .u32 0, .int .i64 0, .int .u32 0, .int .i64 0, .int .u32 0, .int .i64 0, .bool false, .bool false, .int .u32 0, .bool false, .int .i64 0, .int .u32 0, .int .i64 0])⟩
theorem te69_ok : TROK Tryz.prog 69 te69 := ⟨Tryz.underlying69, ⟨_, info_of_run Tryz.typeInfo69, rfl, rfl, rfl⟩⟩
def te71 : TE := ⟨.struct #[⟨"Addr", 60, 0, false, "", "", 0⟩, ⟨"Width", 3, 1, false, "", "", 8⟩, ⟨"Value", 60, 2, false, "", "", 16⟩], 3, 24, some (.agg #[.int .u32 0, .int .i64 0, .int .u32 0])⟩
theorem te71_ok : TROK Tryz.prog 71 te71 := ⟨Tryz.underlying71, ⟨_, info_of_run Tryz.typeInfo71, rfl, rfl, rfl⟩⟩
def te73 : TE := ⟨.struct #[⟨"Kind", 59, 0, false, "", "", 0⟩, ⟨"Hart", 3, 1, false, "", "", 8⟩, ⟨"Commit", 69, 2, false, "", "", 16⟩, ⟨"Store", 71, 16, false, "", "", 104⟩, ⟨"Own", 3, 19, false, "", "", 128⟩], 20, 136, some (.agg #[.int .i64 0, .int .i64 0, .int .u32 0, .int .u32 0, .int .i64 0, .int .u32 0, .int .i64 0, .int .u32 0, .int .i64 0, .bool false, .bool false, .int .u32 0, .bool false, .int .i64 0, .int .u32 0, .int .i64 0, .int .u32 0, .int .i64 0, .int .u32 0, .int .i64 0])⟩
theorem te73_ok : TROK Tryz.prog 73 te73 := ⟨Tryz.underlying73, ⟨_, info_of_run Tryz.typeInfo73, rfl, rfl, rfl⟩⟩
def te80 : TE := ⟨.array 4 4, 4, 4, some (.agg #[.bool false, .bool false, .bool false, .bool false])⟩
theorem te80_ok : TROK Tryz.prog 80 te80 := ⟨Tryz.underlying80, ⟨_, info_of_run Tryz.typeInfo80, rfl, rfl, rfl⟩⟩
def te82 : TE := ⟨.struct #[⟨"Machine", 54, 0, true, "", "", 0⟩, ⟨"on", 80, 1, false, "", "quadrille/fair", 8⟩], 5, 16, some (.agg #[.pointer none, .bool false, .bool false, .bool false, .bool false])⟩
theorem te82_ok : TROK Tryz.prog 82 te82 := ⟨Tryz.underlying82, ⟨_, info_of_run Tryz.typeInfo82, rfl, rfl, rfl⟩⟩
def te83 : TE := ⟨.array 32 60, 32, 128, some (.agg #[.int .u32 0, .int .u32 0, .int .u32 0, .int .u32 0, .int .u32 0, .int .u32 0, .int .u32 0, .int .u32 0, .int .u32 0, .int .u32 0, .int .u32 0, .int .u32 0, .int .u32 0, .int .u32 0, .int .u32 0, .int .u32 0, .int .u32 0, .int .u32 0, .int .u32 0, .int .u32 0, .int .u32 0, .int .u32 0, .int .u32 0, .int .u32 0, .int .u32 0, .int .u32 0, .int .u32 0, .int .u32 0, .int .u32 0, .int .u32 0, .int .u32 0, .int .u32 0])⟩
theorem te83_ok : TROK Tryz.prog 83 te83 := ⟨Tryz.underlying83, ⟨_, info_of_run Tryz.typeInfo83, rfl, rfl, rfl⟩⟩
def te85 : TE := ⟨.struct #[⟨"Id", 3, 0, false, "", "", 0⟩, ⟨"Pc", 60, 1, false, "", "", 8⟩, ⟨"Regs", 83, 2, false, "", "", 12⟩, ⟨"Cause", 67, 34, false, "", "", 144⟩], 35, 152, some (.agg #[.int .i64 0, .int .u32 0, .int .u32 0, .int .u32 0, .int .u32 0, .int .u32 0, .int .u32 0, .int .u32 0, .int .u32 0, .int .u32 0, .int .u32 0, .int .u32 0, .int .u32 0, .int .u32 0, .int .u32 0, .int .u32 0, .int .u32 0, .int .u32 0, .int .u32 0, .int .u32 0, .int .u32 0, .int .u32 0, .int .u32 0, .int .u32 0, .int .u32 0, .int .u32 0, .int .u32 0, .int .u32 0, .int .u32 0, .int .u32 0, .int .u32 0, .int .u32 0, .int .u32 0, .int .u32 0, .int .i64 0])⟩
theorem te85_ok : TROK Tryz.prog 85 te85 := ⟨Tryz.underlying85, ⟨_, info_of_run Tryz.typeInfo85, rfl, rfl, rfl⟩⟩
def te86 : TE := ⟨.slice 60, 1, 24, some (.slice none 0 0)⟩
theorem te86_ok : TROK Tryz.prog 86 te86 := ⟨Tryz.underlying86, ⟨_, info_of_run Tryz.typeInfo86, rfl, rfl, rfl⟩⟩
def te87 : TE := ⟨.slice 86, 1, 24, some (.slice none 0 0)⟩
theorem te87_ok : TROK Tryz.prog 87 te87 := ⟨Tryz.underlying87, ⟨_, info_of_run Tryz.typeInfo87, rfl, rfl, rfl⟩⟩
def te89 : TE := ⟨.struct #[⟨"Codes", 87, 0, false, "", "", 0⟩, ⟨"Memory", 35, 1, false, "", "", 24⟩, ⟨"Sets", 3, 2, false, "", "", 48⟩, ⟨"Ways", 3, 3, false, "", "", 56⟩, ⟨"Choices", 36, 4, false, "", "", 64⟩], 5, 88, some (.agg #[.slice none 0 0, .slice none 0 0, .int .i64 0, .int .i64 0, .slice none 0 0])⟩
theorem te89_ok : TROK Tryz.prog 89 te89 := ⟨Tryz.underlying89, ⟨_, info_of_run Tryz.typeInfo89, rfl, rfl, rfl⟩⟩
def te93 : TE := ⟨.struct #[⟨"Codes", 87, 0, false, "", "", 0⟩, ⟨"Memory", 35, 1, false, "", "", 24⟩, ⟨"Sets", 3, 2, false, "", "", 48⟩, ⟨"Ways", 3, 3, false, "", "", 56⟩], 4, 64, some (.agg #[.slice none 0 0, .slice none 0 0, .int .i64 0, .int .i64 0])⟩
theorem te93_ok : TROK Tryz.prog 93 te93 := ⟨Tryz.underlying93, ⟨_, info_of_run Tryz.typeInfo93, rfl, rfl, rfl⟩⟩
def te96 : TE := ⟨.array 8 37, 8, 64, some (.agg #[.int .i64 0, .int .i64 0, .int .i64 0, .int .i64 0, .int .i64 0, .int .i64 0, .int .i64 0, .int .i64 0])⟩
theorem te96_ok : TROK Tryz.prog 96 te96 := ⟨Tryz.underlying96, ⟨_, info_of_run Tryz.typeInfo96, rfl, rfl, rfl⟩⟩
def te99 : TE := ⟨.slice 37, 1, 24, some (.slice none 0 0)⟩
theorem te99_ok : TROK Tryz.prog 99 te99 := ⟨Tryz.underlying99, ⟨_, info_of_run Tryz.typeInfo99, rfl, rfl, rfl⟩⟩
def te100 : TE := ⟨.int .u64, 1, 8, some (.int .u64 0)⟩
theorem te100_ok : TROK Tryz.prog 100 te100 := ⟨Tryz.underlying100, ⟨_, info_of_run Tryz.typeInfo100, rfl, rfl, rfl⟩⟩
def te104 : TE := ⟨.pointer 112, 1, 8, some (.pointer none)⟩
theorem te104_ok : TROK Tryz.prog 104 te104 := ⟨Tryz.underlying104, ⟨_, info_of_run Tryz.typeInfo104, rfl, rfl, rfl⟩⟩
def te106 : TE := ⟨.struct #[⟨"parts", 104, 0, true, "", "quadrille/machine", 0⟩], 1, 8, some (.agg #[.pointer none])⟩
theorem te106_ok : TROK Tryz.prog 106 te106 := ⟨Tryz.underlying106, ⟨_, info_of_run Tryz.typeInfo106, rfl, rfl, rfl⟩⟩
def te107 : TE := ⟨.slice 113, 1, 24, some (.slice none 0 0)⟩
theorem te107_ok : TROK Tryz.prog 107 te107 := ⟨Tryz.underlying107, ⟨_, info_of_run Tryz.typeInfo107, rfl, rfl, rfl⟩⟩
def te108 : TE := ⟨.slice 123, 1, 24, some (.slice none 0 0)⟩
theorem te108_ok : TROK Tryz.prog 108 te108 := ⟨Tryz.underlying108, ⟨_, info_of_run Tryz.typeInfo108, rfl, rfl, rfl⟩⟩
def te109 : TE := ⟨.pointer 157, 1, 8, some (.pointer none)⟩
theorem te109_ok : TROK Tryz.prog 109 te109 := ⟨Tryz.underlying109, ⟨_, info_of_run Tryz.typeInfo109, rfl, rfl, rfl⟩⟩
def te110 : TE := ⟨.pointer 161, 1, 8, some (.pointer none)⟩
theorem te110_ok : TROK Tryz.prog 110 te110 := ⟨Tryz.underlying110, ⟨_, info_of_run Tryz.typeInfo110, rfl, rfl, rfl⟩⟩
def te112 : TE := ⟨.struct #[⟨"cores", 107, 0, false, "", "quadrille/machine", 0⟩, ⟨"caches", 108, 1, false, "", "quadrille/machine", 24⟩, ⟨"n", 109, 2, false, "", "quadrille/machine", 48⟩, ⟨"h", 110, 3, false, "", "quadrille/machine", 56⟩], 4, 64, some (.agg #[.slice none 0 0, .slice none 0 0, .pointer none, .pointer none])⟩
theorem te112_ok : TROK Tryz.prog 112 te112 := ⟨Tryz.underlying112, ⟨_, info_of_run Tryz.typeInfo112, rfl, rfl, rfl⟩⟩
def te113 : TE := ⟨.pointer 153, 1, 8, some (.pointer none)⟩
theorem te113_ok : TROK Tryz.prog 113 te113 := ⟨Tryz.underlying113, ⟨_, info_of_run Tryz.typeInfo113, rfl, rfl, rfl⟩⟩
def te115 : TE := ⟨.slice 195, 1, 24, some (.slice none 0 0)⟩
theorem te115_ok : TROK Tryz.prog 115 te115 := ⟨Tryz.underlying115, ⟨_, info_of_run Tryz.typeInfo115, rfl, rfl, rfl⟩⟩
def te117 : TE := ⟨.array 2 37, 2, 16, some (.agg #[.int .i64 0, .int .i64 0])⟩
theorem te117_ok : TROK Tryz.prog 117 te117 := ⟨Tryz.underlying117, ⟨_, info_of_run Tryz.typeInfo117, rfl, rfl, rfl⟩⟩
def te118 : TE := ⟨.func #[3, 3] #[73] false, 1, 8, some (.nilFunc)⟩
theorem te118_ok : TROK Tryz.prog 118 te118 := ⟨Tryz.underlying118, ⟨_, info_of_run Tryz.typeInfo118, rfl, rfl, rfl⟩⟩
def te119 : TE := ⟨.array 6 118, 6, 48, some (.agg #[.nilFunc, .nilFunc, .nilFunc, .nilFunc, .nilFunc, .nilFunc])⟩
theorem te119_ok : TROK Tryz.prog 119 te119 := ⟨Tryz.underlying119, ⟨_, info_of_run Tryz.typeInfo119, rfl, rfl, rfl⟩⟩
def te123 : TE := ⟨.pointer 174, 1, 8, some (.pointer none)⟩
theorem te123_ok : TROK Tryz.prog 123 te123 := ⟨Tryz.underlying123, ⟨_, info_of_run Tryz.typeInfo123, rfl, rfl, rfl⟩⟩
def te126 : TE := ⟨.slice 71, 1, 24, some (.slice none 0 0)⟩
theorem te126_ok : TROK Tryz.prog 126 te126 := ⟨Tryz.underlying126, ⟨_, info_of_run Tryz.typeInfo126, rfl, rfl, rfl⟩⟩
def te128 : TE := ⟨.func #[113] #[4] false, 1, 8, some (.nilFunc)⟩
theorem te128_ok : TROK Tryz.prog 128 te128 := ⟨Tryz.underlying128, ⟨_, info_of_run Tryz.typeInfo128, rfl, rfl, rfl⟩⟩
def te133 : TE := ⟨.pointer 182, 1, 8, some (.pointer none)⟩
theorem te133_ok : TROK Tryz.prog 133 te133 := ⟨Tryz.underlying133, ⟨_, info_of_run Tryz.typeInfo133, rfl, rfl, rfl⟩⟩
def te138 : TE := ⟨.pointer 142, 1, 8, some (.pointer none)⟩
theorem te138_ok : TROK Tryz.prog 138 te138 := ⟨Tryz.underlying138, ⟨_, info_of_run Tryz.typeInfo138, rfl, rfl, rfl⟩⟩
def te142 : TE := ⟨.struct #[⟨"Machine", 54, 0, true, "", "", 0⟩, ⟨"dids", 22, 1, false, "", "quadrille/script", 8⟩], 2, 32, some (.agg #[.pointer none, .slice none 0 0])⟩
theorem te142_ok : TROK Tryz.prog 142 te142 := ⟨Tryz.underlying142, ⟨_, info_of_run Tryz.typeInfo142, rfl, rfl, rfl⟩⟩
def te149 : TE := ⟨.struct #[⟨"h", 85, 0, false, "", "quadrille/core", 0⟩, ⟨"code", 86, 35, false, "", "quadrille/core", 152⟩, ⟨"size", 3, 36, false, "", "quadrille/core", 176⟩], 37, 184, some (.agg #[.int .i64 0, .int .u32 0, .int .u32 0, .int .u32 0, .int .u32 0, .int .u32 0, .int .u32 0, .int .u32 0, .int .u32 0, .int .u32 0, .int .u32 0, .int .u32 0, .int .u32 0, .int .u32 0, .int .u32 0, .int .u32 0, .int .u32 0, .int .u32 0, .int .u32 0, .int .u32 0, .int .u32 0, .int .u32 0, .int .u32 0, .int .u32 0, .int .u32 0, .int .u32 0, .int .u32 0, .int .u32 0, .int .u32 0, .int .u32 0, .int .u32 0, .int .u32 0, .int .u32 0, .int .u32 0, .int .i64 0, .slice none 0 0, .int .i64 0])⟩
theorem te149_ok : TROK Tryz.prog 149 te149 := ⟨Tryz.underlying149, ⟨_, info_of_run Tryz.typeInfo149, rfl, rfl, rfl⟩⟩
def te150 : TE := ⟨.pointer 214, 1, 8, some (.pointer none)⟩
theorem te150_ok : TROK Tryz.prog 150 te150 := ⟨Tryz.underlying150, ⟨_, info_of_run Tryz.typeInfo150, rfl, rfl, rfl⟩⟩
def te151 : TE := ⟨.pointer 60, 1, 8, some (.pointer none)⟩
theorem te151_ok : TROK Tryz.prog 151 te151 := ⟨Tryz.underlying151, ⟨_, info_of_run Tryz.typeInfo151, rfl, rfl, rfl⟩⟩
def te153 : TE := ⟨.struct #[⟨"state", 149, 0, true, "", "quadrille/core", 0⟩, ⟨"b", 150, 37, false, "", "quadrille/core", 184⟩, ⟨"first", 3, 38, false, "", "quadrille/core", 192⟩, ⟨"reserved", 151, 39, false, "", "quadrille/core", 200⟩], 40, 208, some (.agg #[.int .i64 0, .int .u32 0, .int .u32 0, .int .u32 0, .int .u32 0, .int .u32 0, .int .u32 0, .int .u32 0, .int .u32 0, .int .u32 0, .int .u32 0, .int .u32 0, .int .u32 0, .int .u32 0, .int .u32 0, .int .u32 0, .int .u32 0, .int .u32 0, .int .u32 0, .int .u32 0, .int .u32 0, .int .u32 0, .int .u32 0, .int .u32 0, .int .u32 0, .int .u32 0, .int .u32 0, .int .u32 0, .int .u32 0, .int .u32 0, .int .u32 0, .int .u32 0, .int .u32 0, .int .u32 0, .int .i64 0, .slice none 0 0, .int .i64 0, .pointer none, .int .i64 0, .pointer none])⟩
theorem te153_ok : TROK Tryz.prog 153 te153 := ⟨Tryz.underlying153, ⟨_, info_of_run Tryz.typeInfo153, rfl, rfl, rfl⟩⟩
def te154 : TE := ⟨.int .i64, 1, 8, some (.int .i64 0)⟩
theorem te154_ok : TROK Tryz.prog 154 te154 := ⟨Tryz.underlying154, ⟨_, info_of_run Tryz.typeInfo154, rfl, rfl, rfl⟩⟩
def te157 : TE := ⟨.struct #[⟨"l", 115, 0, false, "", "quadrille/net", 0⟩, ⟨"most", 3, 1, false, "", "quadrille/net", 24⟩], 2, 32, some (.agg #[.slice none 0 0, .int .i64 0])⟩
theorem te157_ok : TROK Tryz.prog 157 te157 := ⟨Tryz.underlying157, ⟨_, info_of_run Tryz.typeInfo157, rfl, rfl, rfl⟩⟩
def te159 : TE := ⟨.map 60 163, 1, 8, some (.map none)⟩
theorem te159_ok : TROK Tryz.prog 159 te159 := ⟨Tryz.underlying159, ⟨_, info_of_run Tryz.typeInfo159, rfl, rfl, rfl⟩⟩
def te161 : TE := ⟨.struct #[⟨"m", 133, 0, false, "", "quadrille/home", 0⟩, ⟨"entries", 159, 1, false, "", "quadrille/home", 8⟩], 2, 16, some (.agg #[.pointer none, .map none])⟩
theorem te161_ok : TROK Tryz.prog 161 te161 := ⟨Tryz.underlying161, ⟨_, info_of_run Tryz.typeInfo161, rfl, rfl, rfl⟩⟩
def te163 : TE := ⟨.pointer 166, 1, 8, some (.pointer none)⟩
theorem te163_ok : TROK Tryz.prog 163 te163 := ⟨Tryz.underlying163, ⟨_, info_of_run Tryz.typeInfo163, rfl, rfl, rfl⟩⟩
def te164 : TE := ⟨.int .i64, 1, 8, some (.int .i64 0)⟩
theorem te164_ok : TROK Tryz.prog 164 te164 := ⟨Tryz.underlying164, ⟨_, info_of_run Tryz.typeInfo164, rfl, rfl, rfl⟩⟩
def te166 : TE := ⟨.struct #[⟨"Owner", 3, 0, false, "", "", 0⟩, ⟨"Sharers", 80, 1, false, "", "", 8⟩, ⟨"Busy", 4, 5, false, "", "", 12⟩, ⟨"Asks", 3, 6, false, "", "", 16⟩, ⟨"Kind", 164, 7, false, "", "", 24⟩, ⟨"Waits", 3, 8, false, "", "", 32⟩, ⟨"Told", 4, 9, false, "", "", 40⟩, ⟨"Queue", 115, 10, false, "", "", 48⟩], 11, 72, some (.agg #[.int .i64 0, .bool false, .bool false, .bool false, .bool false, .bool false, .int .i64 0, .int .i64 0, .int .i64 0, .bool false, .slice none 0 0])⟩
theorem te166_ok : TROK Tryz.prog 166 te166 := ⟨Tryz.underlying166, ⟨_, info_of_run Tryz.typeInfo166, rfl, rfl, rfl⟩⟩
def te170 : TE := ⟨.pointer 217, 1, 8, some (.pointer none)⟩
theorem te170_ok : TROK Tryz.prog 170 te170 := ⟨Tryz.underlying170, ⟨_, info_of_run Tryz.typeInfo170, rfl, rfl, rfl⟩⟩
def te171 : TE := ⟨.pointer 176, 1, 8, some (.pointer none)⟩
theorem te171_ok : TROK Tryz.prog 171 te171 := ⟨Tryz.underlying171, ⟨_, info_of_run Tryz.typeInfo171, rfl, rfl, rfl⟩⟩
def te172 : TE := ⟨.pointer 179, 1, 8, some (.pointer none)⟩
theorem te172_ok : TROK Tryz.prog 172 te172 := ⟨Tryz.underlying172, ⟨_, info_of_run Tryz.typeInfo172, rfl, rfl, rfl⟩⟩
def te174 : TE := ⟨.struct #[⟨"id", 3, 0, false, "", "quadrille/cache", 0⟩, ⟨"l", 170, 1, false, "", "quadrille/cache", 8⟩, ⟨"asked", 171, 2, false, "", "quadrille/cache", 16⟩, ⟨"given", 172, 3, false, "", "quadrille/cache", 24⟩], 4, 32, some (.agg #[.int .i64 0, .pointer none, .pointer none, .pointer none])⟩
theorem te174_ok : TROK Tryz.prog 174 te174 := ⟨Tryz.underlying174, ⟨_, info_of_run Tryz.typeInfo174, rfl, rfl, rfl⟩⟩
def te176 : TE := ⟨.struct #[⟨"line", 60, 0, false, "", "quadrille/cache", 0⟩, ⟨"write", 4, 1, false, "", "quadrille/cache", 4⟩], 2, 8, some (.agg #[.int .u32 0, .bool false])⟩
theorem te176_ok : TROK Tryz.prog 176 te176 := ⟨Tryz.underlying176, ⟨_, info_of_run Tryz.typeInfo176, rfl, rfl, rfl⟩⟩
def te177 : TE := ⟨.array 16 5, 16, 16, some (.agg #[.int .u8 0, .int .u8 0, .int .u8 0, .int .u8 0, .int .u8 0, .int .u8 0, .int .u8 0, .int .u8 0, .int .u8 0, .int .u8 0, .int .u8 0, .int .u8 0, .int .u8 0, .int .u8 0, .int .u8 0, .int .u8 0])⟩
theorem te177_ok : TROK Tryz.prog 177 te177 := ⟨Tryz.underlying177, ⟨_, info_of_run Tryz.typeInfo177, rfl, rfl, rfl⟩⟩
def te179 : TE := ⟨.struct #[⟨"Number", 60, 0, false, "", "", 0⟩, ⟨"State", 154, 1, false, "", "", 8⟩, ⟨"Bytes", 177, 2, false, "", "", 16⟩], 18, 32, some (.agg #[.int .u32 0, .int .i64 0, .int .u8 0, .int .u8 0, .int .u8 0, .int .u8 0, .int .u8 0, .int .u8 0, .int .u8 0, .int .u8 0, .int .u8 0, .int .u8 0, .int .u8 0, .int .u8 0, .int .u8 0, .int .u8 0, .int .u8 0, .int .u8 0])⟩
theorem te179_ok : TROK Tryz.prog 179 te179 := ⟨Tryz.underlying179, ⟨_, info_of_run Tryz.typeInfo179, rfl, rfl, rfl⟩⟩
def te182 : TE := ⟨.struct #[⟨"b", 35, 0, false, "", "quadrille/image", 0⟩], 1, 24, some (.agg #[.slice none 0 0])⟩
theorem te182_ok : TROK Tryz.prog 182 te182 := ⟨Tryz.underlying182, ⟨_, info_of_run Tryz.typeInfo182, rfl, rfl, rfl⟩⟩
def te195 : TE := ⟨.struct #[⟨"Kind", 164, 0, false, "", "", 0⟩, ⟨"From", 3, 1, false, "", "", 8⟩, ⟨"To", 3, 2, false, "", "", 16⟩, ⟨"Line", 60, 3, false, "", "", 24⟩, ⟨"Bytes", 177, 4, false, "", "", 28⟩], 20, 48, some (.agg #[.int .i64 0, .int .i64 0, .int .i64 0, .int .u32 0, .int .u8 0, .int .u8 0, .int .u8 0, .int .u8 0, .int .u8 0, .int .u8 0, .int .u8 0, .int .u8 0, .int .u8 0, .int .u8 0, .int .u8 0, .int .u8 0, .int .u8 0, .int .u8 0, .int .u8 0, .int .u8 0])⟩
theorem te195_ok : TROK Tryz.prog 195 te195 := ⟨Tryz.underlying195, ⟨_, info_of_run Tryz.typeInfo195, rfl, rfl, rfl⟩⟩
def te210 : TE := ⟨.struct #[⟨"Store", 71, 0, true, "", "", 0⟩], 3, 24, some (.agg #[.int .u32 0, .int .i64 0, .int .u32 0])⟩
theorem te210_ok : TROK Tryz.prog 210 te210 := ⟨Tryz.underlying210, ⟨_, info_of_run Tryz.typeInfo210, rfl, rfl, rfl⟩⟩
def te212 : TE := ⟨.array 4 210, 12, 96, some (.agg #[.int .u32 0, .int .i64 0, .int .u32 0, .int .u32 0, .int .i64 0, .int .u32 0, .int .u32 0, .int .i64 0, .int .u32 0, .int .u32 0, .int .i64 0, .int .u32 0])⟩
theorem te212_ok : TROK Tryz.prog 212 te212 := ⟨Tryz.underlying212, ⟨_, info_of_run Tryz.typeInfo212, rfl, rfl, rfl⟩⟩
def te214 : TE := ⟨.struct #[⟨"ring", 212, 0, false, "", "quadrille/buffer", 0⟩, ⟨"first", 3, 12, false, "", "quadrille/buffer", 96⟩, ⟨"n", 3, 13, false, "", "quadrille/buffer", 104⟩], 14, 112, some (.agg #[.int .u32 0, .int .i64 0, .int .u32 0, .int .u32 0, .int .i64 0, .int .u32 0, .int .u32 0, .int .i64 0, .int .u32 0, .int .u32 0, .int .i64 0, .int .u32 0, .int .i64 0, .int .i64 0])⟩
theorem te214_ok : TROK Tryz.prog 214 te214 := ⟨Tryz.underlying214, ⟨_, info_of_run Tryz.typeInfo214, rfl, rfl, rfl⟩⟩
def te215 : TE := ⟨.slice 218, 1, 24, some (.slice none 0 0)⟩
theorem te215_ok : TROK Tryz.prog 215 te215 := ⟨Tryz.underlying215, ⟨_, info_of_run Tryz.typeInfo215, rfl, rfl, rfl⟩⟩
def te217 : TE := ⟨.struct #[⟨"sets", 215, 0, false, "", "quadrille/lines", 0⟩, ⟨"ways", 3, 1, false, "", "quadrille/lines", 24⟩], 2, 32, some (.agg #[.slice none 0 0, .int .i64 0])⟩
theorem te217_ok : TROK Tryz.prog 217 te217 := ⟨Tryz.underlying217, ⟨_, info_of_run Tryz.typeInfo217, rfl, rfl, rfl⟩⟩
def te218 : TE := ⟨.slice 179, 1, 24, some (.slice none 0 0)⟩
theorem te218_ok : TROK Tryz.prog 218 te218 := ⟨Tryz.underlying218, ⟨_, info_of_run Tryz.typeInfo218, rfl, rfl, rfl⟩⟩
def te223 : TE := ⟨.func #[269] #[] false, 1, 8, some (.nilFunc)⟩
theorem te223_ok : TROK Tryz.prog 223 te223 := ⟨Tryz.underlying223, ⟨_, info_of_run Tryz.typeInfo223, rfl, rfl, rfl⟩⟩
def te231 : TE := ⟨.pointer 233, 1, 8, some (.pointer none)⟩
theorem te231_ok : TROK Tryz.prog 231 te231 := ⟨Tryz.underlying231, ⟨_, info_of_run Tryz.typeInfo231, rfl, rfl, rfl⟩⟩
def te233 : TE := ⟨.struct #[⟨"Core", 113, 0, true, "", "", 0⟩, ⟨"m", 123, 1, false, "", "quadrille/core", 8⟩, ⟨"pick", 3, 2, false, "", "quadrille/core", 16⟩, ⟨"word", 60, 3, false, "", "quadrille/core", 24⟩, ⟨"a", 64, 4, false, "", "quadrille/core", 32⟩], 11, 80, some (.agg #[.pointer none, .pointer none, .int .i64 0, .int .u32 0, .int .i64 0, .int .u32 0, .int .i64 0, .int .u32 0, .int .i64 0, .bool false, .bool false])⟩
theorem te233_ok : TROK Tryz.prog 233 te233 := ⟨Tryz.underlying233, ⟨_, info_of_run Tryz.typeInfo233, rfl, rfl, rfl⟩⟩
def te236 : TE := ⟨.func #[231] #[73] false, 1, 8, some (.nilFunc)⟩
theorem te236_ok : TROK Tryz.prog 236 te236 := ⟨Tryz.underlying236, ⟨_, info_of_run Tryz.typeInfo236, rfl, rfl, rfl⟩⟩
def te237 : TE := ⟨.map 61 236, 1, 8, some (.map none)⟩
theorem te237_ok : TROK Tryz.prog 237 te237 := ⟨Tryz.underlying237, ⟨_, info_of_run Tryz.typeInfo237, rfl, rfl, rfl⟩⟩
def te239 : TE := ⟨.func #[] #[73] false, 1, 8, some (.nilFunc)⟩
theorem te239_ok : TROK Tryz.prog 239 te239 := ⟨Tryz.underlying239, ⟨_, info_of_run Tryz.typeInfo239, rfl, rfl, rfl⟩⟩
def te247 : TE := ⟨.struct #[⟨"why", 23, 0, false, "", "quadrille/home", 0⟩], 1, 8, some (.agg #[.int .i64 0])⟩
theorem te247_ok : TROK Tryz.prog 247 te247 := ⟨Tryz.underlying247, ⟨_, info_of_run Tryz.typeInfo247, rfl, rfl, rfl⟩⟩
def te249 : TE := ⟨.pointer 253, 1, 8, some (.pointer none)⟩
theorem te249_ok : TROK Tryz.prog 249 te249 := ⟨Tryz.underlying249, ⟨_, info_of_run Tryz.typeInfo249, rfl, rfl, rfl⟩⟩
def te251 : TE := ⟨.struct #[⟨"l", 115, 0, false, "", "quadrille/home", 0⟩], 1, 24, some (.agg #[.slice none 0 0])⟩
theorem te251_ok : TROK Tryz.prog 251 te251 := ⟨Tryz.underlying251, ⟨_, info_of_run Tryz.typeInfo251, rfl, rfl, rfl⟩⟩
def te253 : TE := ⟨.struct #[⟨"sent", 251, 0, true, "", "quadrille/home", 0⟩, ⟨"Entry", 163, 1, true, "", "", 24⟩, ⟨"h", 110, 2, false, "", "quadrille/home", 32⟩, ⟨"line", 60, 3, false, "", "quadrille/home", 40⟩], 4, 48, some (.agg #[.slice none 0 0, .pointer none, .pointer none, .int .u32 0])⟩
theorem te253_ok : TROK Tryz.prog 253 te253 := ⟨Tryz.underlying253, ⟨_, info_of_run Tryz.typeInfo253, rfl, rfl, rfl⟩⟩
def te254 : TE := ⟨.func #[195] #[] false, 1, 8, some (.nilFunc)⟩
theorem te254_ok : TROK Tryz.prog 254 te254 := ⟨Tryz.underlying254, ⟨_, info_of_run Tryz.typeInfo254, rfl, rfl, rfl⟩⟩
def te255 : TE := ⟨.map 164 254, 1, 8, some (.map none)⟩
theorem te255_ok : TROK Tryz.prog 255 te255 := ⟨Tryz.underlying255, ⟨_, info_of_run Tryz.typeInfo255, rfl, rfl, rfl⟩⟩
def te257 : TE := ⟨.pointer 23, 1, 8, some (.pointer none)⟩
theorem te257_ok : TROK Tryz.prog 257 te257 := ⟨Tryz.underlying257, ⟨_, info_of_run Tryz.typeInfo257, rfl, rfl, rfl⟩⟩
def te258 : TE := ⟨.func #[195] #[115] false, 1, 8, some (.nilFunc)⟩
theorem te258_ok : TROK Tryz.prog 258 te258 := ⟨Tryz.underlying258, ⟨_, info_of_run Tryz.typeInfo258, rfl, rfl, rfl⟩⟩
def te259 : TE := ⟨.map 164 258, 1, 8, some (.map none)⟩
theorem te259_ok : TROK Tryz.prog 259 te259 := ⟨Tryz.underlying259, ⟨_, info_of_run Tryz.typeInfo259, rfl, rfl, rfl⟩⟩
def te269 : TE := ⟨.func #[179] #[4] false, 1, 8, some (.nilFunc)⟩
theorem te269_ok : TROK Tryz.prog 269 te269 := ⟨Tryz.underlying269, ⟨_, info_of_run Tryz.typeInfo269, rfl, rfl, rfl⟩⟩
def te275 : TE := ⟨.func #[35] #[] false, 1, 8, some (.nilFunc)⟩
theorem te275_ok : TROK Tryz.prog 275 te275 := ⟨Tryz.underlying275, ⟨_, info_of_run Tryz.typeInfo275, rfl, rfl, rfl⟩⟩
def te278 : TE := ⟨.pointer 67, 1, 8, some (.pointer none)⟩
theorem te278_ok : TROK Tryz.prog 278 te278 := ⟨Tryz.underlying278, ⟨_, info_of_run Tryz.typeInfo278, rfl, rfl, rfl⟩⟩
def te280 : TE := ⟨.struct #[⟨"Op", 62, 0, false, "", "", 0⟩, ⟨"Rd", 3, 1, false, "", "", 8⟩, ⟨"Rs1", 3, 2, false, "", "", 16⟩, ⟨"Rs2", 3, 3, false, "", "", 24⟩, ⟨"Imm", 60, 4, false, "", "", 32⟩, ⟨"Aq", 4, 5, false, "", "", 36⟩, ⟨"Rl", 4, 6, false, "", "", 37⟩], 7, 40, some (.agg #[.int .i64 0, .int .i64 0, .int .i64 0, .int .i64 0, .int .u32 0, .bool false, .bool false])⟩
theorem te280_ok : TROK Tryz.prog 280 te280 := ⟨Tryz.underlying280, ⟨_, info_of_run Tryz.typeInfo280, rfl, rfl, rfl⟩⟩
def te284 : TE := ⟨.struct #[⟨"l", 115, 0, false, "", "quadrille/core", 0⟩], 1, 24, some (.agg #[.slice none 0 0])⟩
theorem te284_ok : TROK Tryz.prog 284 te284 := ⟨Tryz.underlying284, ⟨_, info_of_run Tryz.typeInfo284, rfl, rfl, rfl⟩⟩
def te291 : TE := ⟨.struct #[⟨"home", 4, 0, false, "", "quadrille/net", 0⟩, ⟨"bytes", 4, 1, false, "", "quadrille/net", 1⟩], 2, 2, some (.agg #[.bool false, .bool false])⟩
theorem te291_ok : TROK Tryz.prog 291 te291 := ⟨Tryz.underlying291, ⟨_, info_of_run Tryz.typeInfo291, rfl, rfl, rfl⟩⟩
def te293 : TE := ⟨.map 164 291, 1, 8, some (.map none)⟩
theorem te293_ok : TROK Tryz.prog 293 te293 := ⟨Tryz.underlying293, ⟨_, info_of_run Tryz.typeInfo293, rfl, rfl, rfl⟩⟩
def te299 : TE := ⟨.struct #[⟨"why", 23, 0, false, "", "quadrille/cache", 0⟩], 1, 8, some (.agg #[.int .i64 0])⟩
theorem te299_ok : TROK Tryz.prog 299 te299 := ⟨Tryz.underlying299, ⟨_, info_of_run Tryz.typeInfo299, rfl, rfl, rfl⟩⟩
def te301 : TE := ⟨.func #[60] #[4] false, 1, 8, some (.nilFunc)⟩
theorem te301_ok : TROK Tryz.prog 301 te301 := ⟨Tryz.underlying301, ⟨_, info_of_run Tryz.typeInfo301, rfl, rfl, rfl⟩⟩
def te306 : TE := ⟨.struct #[⟨"why", 67, 0, false, "", "quadrille/hart", 0⟩], 1, 8, some (.agg #[.int .i64 0])⟩
theorem te306_ok : TROK Tryz.prog 306 te306 := ⟨Tryz.underlying306, ⟨_, info_of_run Tryz.typeInfo306, rfl, rfl, rfl⟩⟩
def te313 : TE := ⟨.int .i64, 1, 8, some (.int .i64 0)⟩
theorem te313_ok : TROK Tryz.prog 313 te313 := ⟨Tryz.underlying313, ⟨_, info_of_run Tryz.typeInfo313, rfl, rfl, rfl⟩⟩
def te326 : TE := ⟨.func #[60] #[60] false, 1, 8, some (.nilFunc)⟩
theorem te326_ok : TROK Tryz.prog 326 te326 := ⟨Tryz.underlying326, ⟨_, info_of_run Tryz.typeInfo326, rfl, rfl, rfl⟩⟩
def te327 : TE := ⟨.func #[280] #[9] false, 1, 8, some (.nilFunc)⟩
theorem te327_ok : TROK Tryz.prog 327 te327 := ⟨Tryz.underlying327, ⟨_, info_of_run Tryz.typeInfo327, rfl, rfl, rfl⟩⟩
def te329 : TE := ⟨.struct #[⟨"mask", 60, 0, false, "", "quadrille/isa", 0⟩, ⟨"rd", 4, 1, false, "", "quadrille/isa", 4⟩, ⟨"rs1", 4, 2, false, "", "quadrille/isa", 5⟩, ⟨"rs2", 4, 3, false, "", "quadrille/isa", 6⟩, ⟨"a", 4, 4, false, "", "quadrille/isa", 7⟩, ⟨"may", 301, 5, false, "", "quadrille/isa", 8⟩, ⟨"put", 326, 6, false, "", "quadrille/isa", 16⟩, ⟨"take", 326, 7, false, "", "quadrille/isa", 24⟩, ⟨"told", 327, 8, false, "", "quadrille/isa", 32⟩], 9, 40, some (.agg #[.int .u32 0, .bool false, .bool false, .bool false, .bool false, .nilFunc, .nilFunc, .nilFunc, .nilFunc])⟩
theorem te329_ok : TROK Tryz.prog 329 te329 := ⟨Tryz.underlying329, ⟨_, info_of_run Tryz.typeInfo329, rfl, rfl, rfl⟩⟩
def te331 : TE := ⟨.struct #[⟨"op", 62, 0, false, "", "quadrille/isa", 0⟩, ⟨"name", 9, 1, false, "", "quadrille/isa", 8⟩, ⟨"form", 329, 2, false, "", "quadrille/isa", 24⟩, ⟨"bits", 60, 11, false, "", "quadrille/isa", 64⟩], 12, 72, some (.agg #[.int .i64 0, .string ⟨#[]⟩, .int .u32 0, .bool false, .bool false, .bool false, .bool false, .nilFunc, .nilFunc, .nilFunc, .nilFunc, .int .u32 0])⟩
theorem te331_ok : TROK Tryz.prog 331 te331 := ⟨Tryz.underlying331, ⟨_, info_of_run Tryz.typeInfo331, rfl, rfl, rfl⟩⟩
def te335 : TE := ⟨.pointer 3, 1, 8, some (.pointer none)⟩
theorem te335_ok : TROK Tryz.prog 335 te335 := ⟨Tryz.underlying335, ⟨_, info_of_run Tryz.typeInfo335, rfl, rfl, rfl⟩⟩
def te336 : TE := ⟨.struct #[⟨"has", 4, 0, false, "", "quadrille/isa", 0⟩, ⟨"to", 335, 1, false, "", "quadrille/isa", 8⟩, ⟨"lo", 3, 2, false, "", "quadrille/isa", 16⟩], 3, 24, some (.agg #[.bool false, .pointer none, .int .i64 0])⟩
theorem te336_ok : TROK Tryz.prog 336 te336 := ⟨Tryz.underlying336, ⟨_, info_of_run Tryz.typeInfo336, rfl, rfl, rfl⟩⟩
def te337 : TE := ⟨.slice 336, 1, 24, some (.slice none 0 0)⟩
theorem te337_ok : TROK Tryz.prog 337 te337 := ⟨Tryz.underlying337, ⟨_, info_of_run Tryz.typeInfo337, rfl, rfl, rfl⟩⟩
def te339 : TE := ⟨.map 62 3, 1, 8, some (.map none)⟩
theorem te339_ok : TROK Tryz.prog 339 te339 := ⟨Tryz.underlying339, ⟨_, info_of_run Tryz.typeInfo339, rfl, rfl, rfl⟩⟩
def te341 : TE := ⟨.func #[60, 60] #[60] false, 1, 8, some (.nilFunc)⟩
theorem te341_ok : TROK Tryz.prog 341 te341 := ⟨Tryz.underlying341, ⟨_, info_of_run Tryz.typeInfo341, rfl, rfl, rfl⟩⟩
def te343 : TE := ⟨.func #[60, 60] #[4] false, 1, 8, some (.nilFunc)⟩
theorem te343_ok : TROK Tryz.prog 343 te343 := ⟨Tryz.underlying343, ⟨_, info_of_run Tryz.typeInfo343, rfl, rfl, rfl⟩⟩
def te345 : TE := ⟨.map 62 343, 1, 8, some (.map none)⟩
theorem te345_ok : TROK Tryz.prog 345 te345 := ⟨Tryz.underlying345, ⟨_, info_of_run Tryz.typeInfo345, rfl, rfl, rfl⟩⟩
def te349 : TE := ⟨.int .u64, 1, 8, some (.int .u64 0)⟩
theorem te349_ok : TROK Tryz.prog 349 te349 := ⟨Tryz.underlying349, ⟨_, info_of_run Tryz.typeInfo349, rfl, rfl, rfl⟩⟩
def te358 : TE := ⟨.func #[331] #[4] false, 1, 8, some (.nilFunc)⟩
theorem te358_ok : TROK Tryz.prog 358 te358 := ⟨Tryz.underlying358, ⟨_, info_of_run Tryz.typeInfo358, rfl, rfl, rfl⟩⟩
def te359 : TE := ⟨.map 9 329, 1, 8, some (.map none)⟩
theorem te359_ok : TROK Tryz.prog 359 te359 := ⟨Tryz.underlying359, ⟨_, info_of_run Tryz.typeInfo359, rfl, rfl, rfl⟩⟩
def te361 : TE := ⟨.slice 9, 1, 24, some (.slice none 0 0)⟩
theorem te361_ok : TROK Tryz.prog 361 te361 := ⟨Tryz.underlying361, ⟨_, info_of_run Tryz.typeInfo361, rfl, rfl, rfl⟩⟩
def te362 : TE := ⟨.func #[9, 60, 361] #[4] true, 1, 8, some (.nilFunc)⟩
theorem te362_ok : TROK Tryz.prog 362 te362 := ⟨Tryz.underlying362, ⟨_, info_of_run Tryz.typeInfo362, rfl, rfl, rfl⟩⟩
def te372 : TE := ⟨.int .i32, 1, 4, some (.int .i32 0)⟩
theorem te372_ok : TROK Tryz.prog 372 te372 := ⟨Tryz.underlying372, ⟨_, info_of_run Tryz.typeInfo372, rfl, rfl, rfl⟩⟩
def te378 : TE := ⟨.array 256 5, 256, 256, some (.agg #[.int .u8 0, .int .u8 0, .int .u8 0, .int .u8 0, .int .u8 0, .int .u8 0, .int .u8 0, .int .u8 0, .int .u8 0, .int .u8 0, .int .u8 0, .int .u8 0, .int .u8 0, .int .u8 0, .int .u8 0, .int .u8 0, .int .u8 0, .int .u8 0, .int .u8 0, .int .u8 0, .int .u8 0, .int .u8 0, .int .u8 0, .int .u8 0, .int .u8 0, .int .u8 0, .int .u8 0, .int .u8 0, .int .u8 0, .int .u8 0, .int .u8 0, .int .u8 0, .int .u8 0, .int .u8 0, .int .u8 0, .int .u8 0, .int .u8 0, .int .u8 0, .int .u8 0, .int .u8 0, .int .u8 0, .int .u8 0, .int .u8 0, .int .u8 0, .int .u8 0, .int .u8 0, .int .u8 0, .int .u8 0, .int .u8 0, .int .u8 0, .int .u8 0, .int .u8 0, .int .u8 0, .int .u8 0, .int .u8 0, .int .u8 0, .int .u8 0, .int .u8 0, .int .u8 0, .int .u8 0, .int .u8 0, .int .u8 0, .int .u8 0, .int .u8 0, .int .u8 0, .int .u8 0, .int .u8 0, .int .u8 0, .int .u8 0, .int .u8 0, .int .u8 0, .int .u8 0, .int .u8 0, .int .u8 0, .int .u8 0, .int .u8 0, .int .u8 0, .int .u8 0, .int .u8 0, .int .u8 0, .int .u8 0, .int .u8 0, .int .u8 0, .int .u8 0, .int .u8 0, .int .u8 0, .int .u8 0, .int .u8 0, .int .u8 0, .int .u8 0, .int .u8 0, .int .u8 0, .int .u8 0, .int .u8 0, .int .u8 0, .int .u8 0, .int .u8 0, .int .u8 0, .int .u8 0, .int .u8 0, .int .u8 0, .int .u8 0, .int .u8 0, .int .u8 0, .int .u8 0, .int .u8 0, .int .u8 0, .int .u8 0, .int .u8 0, .int .u8 0, .int .u8 0, .int .u8 0, .int .u8 0, .int .u8 0, .int .u8 0, .int .u8 0, .int .u8 0, .int .u8 0, .int .u8 0, .int .u8 0, .int .u8 0, .int .u8 0, .int .u8 0, .int .u8 0, .int .u8 0, .int .u8 0, .int .u8 0, .int .u8 0, .int .u8 0, .int .u8 0, .int .u8 0, .int .u8 0, .int .u8 0, .int .u8 0, .int .u8 0, .int .u8 0, .int .u8 0, .int .u8 0, .int .u8 0, .int .u8 0, .int .u8 0, .int .u8 0, .int .u8 0, .int .u8 0, .int .u8 0, .int .u8 0, .int .u8 0, .int .u8 0, .int .u8 0, .int .u8 0, .int .u8 0, .int .u8 0, .int .u8 0, .int .u8 0, .int .u8 0, .int .u8 0, .int .u8 0, .int .u8 0, .int .u8 0, .int .u8 0, .int .u8 0, .int .u8 0, .int .u8 0, .int .u8 0, .int .u8 0, .int .u8 0, .int .u8 0, .int .u8 0, .int .u8 0, .int .u8 0, .int .u8 0, .int .u8 0, .int .u8 0, .int .u8 0, .int .u8 0, .int .u8 0, .int .u8 0, .int .u8 0, .int .u8 0, .int .u8 0, .int .u8 0, .int .u8 0, .int .u8 0, .int .u8 0, .int .u8 0, .int .u8 0, .int .u8 0, .int .u8 0, .int .u8 0, .int .u8 0, .int .u8 0, .int .u8 0, .int .u8 0, .int .u8 0, .int .u8 0, .int .u8 0, .int .u8 0, .int .u8 0, .int .u8 0, .int .u8 0, .int .u8 0, .int .u8 0, .int .u8 0, .int .u8 0, .int .u8 0, .int .u8 0, .int .u8 0, .int .u8 0, .int .u8 0, .int .u8 0, .int .u8 0, .int .u8 0, .int .u8 0, .int .u8 0, .int .u8 0, .int .u8 0, .int .u8 0, .int .u8 0, .int .u8 0, .int .u8 0, .int .u8 0, .int .u8 0, .int .u8 0, .int .u8 0, .int .u8 0, .int .u8 0, .int .u8 0, .int .u8 0, .int .u8 0, .int .u8 0, .int .u8 0, .int .u8 0, .int .u8 0, .int .u8 0, .int .u8 0, .int .u8 0, .int .u8 0, .int .u8 0, .int .u8 0, .int .u8 0, .int .u8 0, .int .u8 0, .int .u8 0, .int .u8 0, .int .u8 0, .int .u8 0, .int .u8 0, .int .u8 0, .int .u8 0, .int .u8 0, .int .u8 0, .int .u8 0, .int .u8 0, .int .u8 0, .int .u8 0, .int .u8 0])⟩
theorem te378_ok : TROK Tryz.prog 378 te378 := ⟨Tryz.underlying378, ⟨_, info_of_run Tryz.typeInfo378, rfl, rfl, rfl⟩⟩
def te380 : TE := ⟨.func #[21] #[4] false, 1, 8, some (.nilFunc)⟩
theorem te380_ok : TROK Tryz.prog 380 te380 := ⟨Tryz.underlying380, ⟨_, info_of_run Tryz.typeInfo380, rfl, rfl, rfl⟩⟩
def te382 : TE := ⟨.func #[60] #[2] false, 1, 8, some (.nilFunc)⟩
theorem te382_ok : TROK Tryz.prog 382 te382 := ⟨Tryz.underlying382, ⟨_, info_of_run Tryz.typeInfo382, rfl, rfl, rfl⟩⟩
def te385 : TE := ⟨.slice 387, 1, 24, some (.slice none 0 0)⟩
theorem te385_ok : TROK Tryz.prog 385 te385 := ⟨Tryz.underlying385, ⟨_, info_of_run Tryz.typeInfo385, rfl, rfl, rfl⟩⟩
def te387 : TE := ⟨.struct #[⟨"start", 3, 0, false, "", "strings", 0⟩, ⟨"end", 3, 1, false, "", "strings", 8⟩], 2, 16, some (.agg #[.int .i64 0, .int .i64 0])⟩
theorem te387_ok : TROK Tryz.prog 387 te387 := ⟨Tryz.underlying387, ⟨_, info_of_run Tryz.typeInfo387, rfl, rfl, rfl⟩⟩
def te389 : TE := ⟨.pointer 409, 1, 8, some (.pointer none)⟩
theorem te389_ok : TROK Tryz.prog 389 te389 := ⟨Tryz.underlying389, ⟨_, info_of_run Tryz.typeInfo389, rfl, rfl, rfl⟩⟩
def te391 : TE := ⟨.map 62 341, 1, 8, some (.map none)⟩
theorem te391_ok : TROK Tryz.prog 391 te391 := ⟨Tryz.underlying391, ⟨_, info_of_run Tryz.typeInfo391, rfl, rfl, rfl⟩⟩
def te393 : TE := ⟨.pointer 395, 1, 8, some (.pointer none)⟩
theorem te393_ok : TROK Tryz.prog 393 te393 := ⟨Tryz.underlying393, ⟨_, info_of_run Tryz.typeInfo393, rfl, rfl, rfl⟩⟩
def te395 : TE := ⟨.struct #[⟨"addr", 393, 0, false, "", "strings", 0⟩, ⟨"buf", 35, 1, false, "", "strings", 8⟩], 2, 32, some (.agg #[.pointer none, .slice none 0 0])⟩
theorem te395_ok : TROK Tryz.prog 395 te395 := ⟨Tryz.underlying395, ⟨_, info_of_run Tryz.typeInfo395, rfl, rfl, rfl⟩⟩
def te401 : TE := ⟨.array 24 5, 24, 24, some (.agg #[.int .u8 0, .int .u8 0, .int .u8 0, .int .u8 0, .int .u8 0, .int .u8 0, .int .u8 0, .int .u8 0, .int .u8 0, .int .u8 0, .int .u8 0, .int .u8 0, .int .u8 0, .int .u8 0, .int .u8 0, .int .u8 0, .int .u8 0, .int .u8 0, .int .u8 0, .int .u8 0, .int .u8 0, .int .u8 0, .int .u8 0, .int .u8 0])⟩
theorem te401_ok : TROK Tryz.prog 401 te401 := ⟨Tryz.underlying401, ⟨_, info_of_run Tryz.typeInfo401, rfl, rfl, rfl⟩⟩
def te406 : TE := ⟨.slice 412, 1, 24, some (.slice none 0 0)⟩
theorem te406_ok : TROK Tryz.prog 406 te406 := ⟨Tryz.underlying406, ⟨_, info_of_run Tryz.typeInfo406, rfl, rfl, rfl⟩⟩
def te407 : TE := ⟨.slice 415, 1, 24, some (.slice none 0 0)⟩
theorem te407_ok : TROK Tryz.prog 407 te407 := ⟨Tryz.underlying407, ⟨_, info_of_run Tryz.typeInfo407, rfl, rfl, rfl⟩⟩
def te409 : TE := ⟨.struct #[⟨"R16", 406, 0, false, "", "", 0⟩, ⟨"R32", 407, 1, false, "", "", 24⟩, ⟨"LatinOffset", 3, 2, false, "", "", 48⟩], 3, 56, some (.agg #[.slice none 0 0, .slice none 0 0, .int .i64 0])⟩
theorem te409_ok : TROK Tryz.prog 409 te409 := ⟨Tryz.underlying409, ⟨_, info_of_run Tryz.typeInfo409, rfl, rfl, rfl⟩⟩
def te410 : TE := ⟨.int .u16, 1, 2, some (.int .u16 0)⟩
theorem te410_ok : TROK Tryz.prog 410 te410 := ⟨Tryz.underlying410, ⟨_, info_of_run Tryz.typeInfo410, rfl, rfl, rfl⟩⟩
def te412 : TE := ⟨.struct #[⟨"Lo", 410, 0, false, "", "", 0⟩, ⟨"Hi", 410, 1, false, "", "", 2⟩, ⟨"Stride", 410, 2, false, "", "", 4⟩], 3, 6, some (.agg #[.int .u16 0, .int .u16 0, .int .u16 0])⟩
theorem te412_ok : TROK Tryz.prog 412 te412 := ⟨Tryz.underlying412, ⟨_, info_of_run Tryz.typeInfo412, rfl, rfl, rfl⟩⟩
def te415 : TE := ⟨.struct #[⟨"Lo", 60, 0, false, "", "", 0⟩, ⟨"Hi", 60, 1, false, "", "", 4⟩, ⟨"Stride", 60, 2, false, "", "", 8⟩], 3, 12, some (.agg #[.int .u32 0, .int .u32 0, .int .u32 0])⟩
theorem te415_ok : TROK Tryz.prog 415 te415 := ⟨Tryz.underlying415, ⟨_, info_of_run Tryz.typeInfo415, rfl, rfl, rfl⟩⟩
def te417 : TE := ⟨.pointer 5, 1, 8, some (.pointer none)⟩
theorem te417_ok : TROK Tryz.prog 417 te417 := ⟨Tryz.underlying417, ⟨_, info_of_run Tryz.typeInfo417, rfl, rfl, rfl⟩⟩
def te420 : TE := ⟨.array 20 349, 20, 160, some (.agg #[.int .u64 0, .int .u64 0, .int .u64 0, .int .u64 0, .int .u64 0, .int .u64 0, .int .u64 0, .int .u64 0, .int .u64 0, .int .u64 0, .int .u64 0, .int .u64 0, .int .u64 0, .int .u64 0, .int .u64 0, .int .u64 0, .int .u64 0, .int .u64 0, .int .u64 0, .int .u64 0])⟩
theorem te420_ok : TROK Tryz.prog 420 te420 := ⟨Tryz.underlying420, ⟨_, info_of_run Tryz.typeInfo420, rfl, rfl, rfl⟩⟩
def te421 : TE := ⟨.array 65 5, 65, 65, some (.agg #[.int .u8 0, .int .u8 0, .int .u8 0, .int .u8 0, .int .u8 0, .int .u8 0, .int .u8 0, .int .u8 0, .int .u8 0, .int .u8 0, .int .u8 0, .int .u8 0, .int .u8 0, .int .u8 0, .int .u8 0, .int .u8 0, .int .u8 0, .int .u8 0, .int .u8 0, .int .u8 0, .int .u8 0, .int .u8 0, .int .u8 0, .int .u8 0, .int .u8 0, .int .u8 0, .int .u8 0, .int .u8 0, .int .u8 0, .int .u8 0, .int .u8 0, .int .u8 0, .int .u8 0, .int .u8 0, .int .u8 0, .int .u8 0, .int .u8 0, .int .u8 0, .int .u8 0, .int .u8 0, .int .u8 0, .int .u8 0, .int .u8 0, .int .u8 0, .int .u8 0, .int .u8 0, .int .u8 0, .int .u8 0, .int .u8 0, .int .u8 0, .int .u8 0, .int .u8 0, .int .u8 0, .int .u8 0, .int .u8 0, .int .u8 0, .int .u8 0, .int .u8 0, .int .u8 0, .int .u8 0, .int .u8 0, .int .u8 0, .int .u8 0, .int .u8 0, .int .u8 0])⟩
theorem te421_ok : TROK Tryz.prog 421 te421 := ⟨Tryz.underlying421, ⟨_, info_of_run Tryz.typeInfo421, rfl, rfl, rfl⟩⟩
def te426 : TE := ⟨.array 2 60, 2, 8, some (.agg #[.int .u32 0, .int .u32 0])⟩
theorem te426_ok : TROK Tryz.prog 426 te426 := ⟨Tryz.underlying426, ⟨_, info_of_run Tryz.typeInfo426, rfl, rfl, rfl⟩⟩
def te430 : TE := ⟨.unsafePointer, 1, 8, some (.pointer none)⟩
theorem te430_ok : TROK Tryz.prog 430 te430 := ⟨Tryz.underlying430, ⟨_, info_of_run Tryz.typeInfo430, rfl, rfl, rfl⟩⟩
def te435 : TE := ⟨.array 32 5, 32, 32, some (.agg #[.int .u8 0, .int .u8 0, .int .u8 0, .int .u8 0, .int .u8 0, .int .u8 0, .int .u8 0, .int .u8 0, .int .u8 0, .int .u8 0, .int .u8 0, .int .u8 0, .int .u8 0, .int .u8 0, .int .u8 0, .int .u8 0, .int .u8 0, .int .u8 0, .int .u8 0, .int .u8 0, .int .u8 0, .int .u8 0, .int .u8 0, .int .u8 0, .int .u8 0, .int .u8 0, .int .u8 0, .int .u8 0, .int .u8 0, .int .u8 0, .int .u8 0, .int .u8 0])⟩
theorem te435_ok : TROK Tryz.prog 435 te435 := ⟨Tryz.underlying435, ⟨_, info_of_run Tryz.typeInfo435, rfl, rfl, rfl⟩⟩
def te436 : TE := ⟨.array 64 5, 64, 64, some (.agg #[.int .u8 0, .int .u8 0, .int .u8 0, .int .u8 0, .int .u8 0, .int .u8 0, .int .u8 0, .int .u8 0, .int .u8 0, .int .u8 0, .int .u8 0, .int .u8 0, .int .u8 0, .int .u8 0, .int .u8 0, .int .u8 0, .int .u8 0, .int .u8 0, .int .u8 0, .int .u8 0, .int .u8 0, .int .u8 0, .int .u8 0, .int .u8 0, .int .u8 0, .int .u8 0, .int .u8 0, .int .u8 0, .int .u8 0, .int .u8 0, .int .u8 0, .int .u8 0, .int .u8 0, .int .u8 0, .int .u8 0, .int .u8 0, .int .u8 0, .int .u8 0, .int .u8 0, .int .u8 0, .int .u8 0, .int .u8 0, .int .u8 0, .int .u8 0, .int .u8 0, .int .u8 0, .int .u8 0, .int .u8 0, .int .u8 0, .int .u8 0, .int .u8 0, .int .u8 0, .int .u8 0, .int .u8 0, .int .u8 0, .int .u8 0, .int .u8 0, .int .u8 0, .int .u8 0, .int .u8 0, .int .u8 0, .int .u8 0, .int .u8 0, .int .u8 0])⟩
theorem te436_ok : TROK Tryz.prog 436 te436 := ⟨Tryz.underlying436, ⟨_, info_of_run Tryz.typeInfo436, rfl, rfl, rfl⟩⟩
def tr : Tr := (.node 179 te179 (.node 99 te99 (.node 59 te59 (.node 35 te35 (.node 9 te9 (.node 4 te4 (.node 3 te3 (.node 2 te2 .leaf .leaf) .leaf) (.node 5 te5 .leaf .leaf)) (.node 23 te23 (.node 22 te22 (.node 21 te21 .leaf .leaf) .leaf) (.node 29 te29 .leaf .leaf))) (.node 50 te50 (.node 39 te39 (.node 37 te37 (.node 36 te36 .leaf .leaf) .leaf) (.node 49 te49 .leaf .leaf)) (.node 54 te54 (.node 52 te52 .leaf .leaf) (.node 57 te57 .leaf .leaf)))) (.node 80 te80 (.node 66 te66 (.node 62 te62 (.node 61 te61 (.node 60 te60 .leaf .leaf) .leaf) (.node 64 te64 .leaf .leaf)) (.node 71 te71 (.node 69 te69 (.node 67 te67 .leaf .leaf) .leaf) (.node 73 te73 .leaf .leaf))) (.node 87 te87 (.node 85 te85 (.node 83 te83 (.node 82 te82 .leaf .leaf) .leaf) (.node 86 te86 .leaf .leaf)) (.node 93 te93 (.node 89 te89 .leaf .leaf) (.node 96 te96 .leaf .leaf))))) (.node 142 te142 (.node 115 te115 (.node 108 te108 (.node 106 te106 (.node 104 te104 (.node 100 te100 .leaf .leaf) .leaf) (.node 107 te107 .leaf .leaf)) (.node 112 te112 (.node 110 te110 (.node 109 te109 .leaf .leaf) .leaf) (.node 113 te113 .leaf .leaf))) (.node 126 te126 (.node 119 te119 (.node 118 te118 (.node 117 te117 .leaf .leaf) .leaf) (.node 123 te123 .leaf .leaf)) (.node 133 te133 (.node 128 te128 .leaf .leaf) (.node 138 te138 .leaf .leaf)))) (.node 163 te163 (.node 154 te154 (.node 151 te151 (.node 150 te150 (.node 149 te149 .leaf .leaf) .leaf) (.node 153 te153 .leaf .leaf)) (.node 159 te159 (.node 157 te157 .leaf .leaf) (.node 161 te161 .leaf .leaf))) (.node 172 te172 (.node 170 te170 (.node 166 te166 (.node 164 te164 .leaf .leaf) .leaf) (.node 171 te171 .leaf .leaf)) (.node 176 te176 (.node 174 te174 .leaf .leaf) (.node 177 te177 .leaf .leaf)))))) (.node 331 te331 (.node 254 te254 (.node 231 te231 (.node 214 te214 (.node 210 te210 (.node 195 te195 (.node 182 te182 .leaf .leaf) .leaf) (.node 212 te212 .leaf .leaf)) (.node 218 te218 (.node 217 te217 (.node 215 te215 .leaf .leaf) .leaf) (.node 223 te223 .leaf .leaf))) (.node 247 te247 (.node 237 te237 (.node 236 te236 (.node 233 te233 .leaf .leaf) .leaf) (.node 239 te239 .leaf .leaf)) (.node 251 te251 (.node 249 te249 .leaf .leaf) (.node 253 te253 .leaf .leaf)))) (.node 291 te291 (.node 269 te269 (.node 258 te258 (.node 257 te257 (.node 255 te255 .leaf .leaf) .leaf) (.node 259 te259 .leaf .leaf)) (.node 280 te280 (.node 278 te278 (.node 275 te275 .leaf .leaf) .leaf) (.node 284 te284 .leaf .leaf))) (.node 313 te313 (.node 301 te301 (.node 299 te299 (.node 293 te293 .leaf .leaf) .leaf) (.node 306 te306 .leaf .leaf)) (.node 327 te327 (.node 326 te326 .leaf .leaf) (.node 329 te329 .leaf .leaf))))) (.node 389 te389 (.node 359 te359 (.node 341 te341 (.node 337 te337 (.node 336 te336 (.node 335 te335 .leaf .leaf) .leaf) (.node 339 te339 .leaf .leaf)) (.node 349 te349 (.node 345 te345 (.node 343 te343 .leaf .leaf) .leaf) (.node 358 te358 .leaf .leaf))) (.node 380 te380 (.node 372 te372 (.node 362 te362 (.node 361 te361 .leaf .leaf) .leaf) (.node 378 te378 .leaf .leaf)) (.node 385 te385 (.node 382 te382 .leaf .leaf) (.node 387 te387 .leaf .leaf)))) (.node 412 te412 (.node 406 te406 (.node 395 te395 (.node 393 te393 (.node 391 te391 .leaf .leaf) .leaf) (.node 401 te401 .leaf .leaf)) (.node 409 te409 (.node 407 te407 .leaf .leaf) (.node 410 te410 .leaf .leaf))) (.node 426 te426 (.node 420 te420 (.node 417 te417 (.node 415 te415 .leaf .leaf) .leaf) (.node 421 te421 .leaf .leaf)) (.node 435 te435 (.node 430 te430 .leaf .leaf) (.node 436 te436 .leaf .leaf)))))))
theorem tr_all : tr.All Tryz.prog := ⟨te179_ok, ⟨te99_ok, ⟨te59_ok, ⟨te35_ok, ⟨te9_ok, ⟨te4_ok, ⟨te3_ok, ⟨te2_ok, trivial, trivial⟩, trivial⟩, ⟨te5_ok, trivial, trivial⟩⟩, ⟨te23_ok, ⟨te22_ok, ⟨te21_ok, trivial, trivial⟩, trivial⟩, ⟨te29_ok, trivial, trivial⟩⟩⟩, ⟨te50_ok, ⟨te39_ok, ⟨te37_ok, ⟨te36_ok, trivial, trivial⟩, trivial⟩, ⟨te49_ok, trivial, trivial⟩⟩, ⟨te54_ok, ⟨te52_ok, trivial, trivial⟩, ⟨te57_ok, trivial, trivial⟩⟩⟩⟩, ⟨te80_ok, ⟨te66_ok, ⟨te62_ok, ⟨te61_ok, ⟨te60_ok, trivial, trivial⟩, trivial⟩, ⟨te64_ok, trivial, trivial⟩⟩, ⟨te71_ok, ⟨te69_ok, ⟨te67_ok, trivial, trivial⟩, trivial⟩, ⟨te73_ok, trivial, trivial⟩⟩⟩, ⟨te87_ok, ⟨te85_ok, ⟨te83_ok, ⟨te82_ok, trivial, trivial⟩, trivial⟩, ⟨te86_ok, trivial, trivial⟩⟩, ⟨te93_ok, ⟨te89_ok, trivial, trivial⟩, ⟨te96_ok, trivial, trivial⟩⟩⟩⟩⟩, ⟨te142_ok, ⟨te115_ok, ⟨te108_ok, ⟨te106_ok, ⟨te104_ok, ⟨te100_ok, trivial, trivial⟩, trivial⟩, ⟨te107_ok, trivial, trivial⟩⟩, ⟨te112_ok, ⟨te110_ok, ⟨te109_ok, trivial, trivial⟩, trivial⟩, ⟨te113_ok, trivial, trivial⟩⟩⟩, ⟨te126_ok, ⟨te119_ok, ⟨te118_ok, ⟨te117_ok, trivial, trivial⟩, trivial⟩, ⟨te123_ok, trivial, trivial⟩⟩, ⟨te133_ok, ⟨te128_ok, trivial, trivial⟩, ⟨te138_ok, trivial, trivial⟩⟩⟩⟩, ⟨te163_ok, ⟨te154_ok, ⟨te151_ok, ⟨te150_ok, ⟨te149_ok, trivial, trivial⟩, trivial⟩, ⟨te153_ok, trivial, trivial⟩⟩, ⟨te159_ok, ⟨te157_ok, trivial, trivial⟩, ⟨te161_ok, trivial, trivial⟩⟩⟩, ⟨te172_ok, ⟨te170_ok, ⟨te166_ok, ⟨te164_ok, trivial, trivial⟩, trivial⟩, ⟨te171_ok, trivial, trivial⟩⟩, ⟨te176_ok, ⟨te174_ok, trivial, trivial⟩, ⟨te177_ok, trivial, trivial⟩⟩⟩⟩⟩⟩, ⟨te331_ok, ⟨te254_ok, ⟨te231_ok, ⟨te214_ok, ⟨te210_ok, ⟨te195_ok, ⟨te182_ok, trivial, trivial⟩, trivial⟩, ⟨te212_ok, trivial, trivial⟩⟩, ⟨te218_ok, ⟨te217_ok, ⟨te215_ok, trivial, trivial⟩, trivial⟩, ⟨te223_ok, trivial, trivial⟩⟩⟩, ⟨te247_ok, ⟨te237_ok, ⟨te236_ok, ⟨te233_ok, trivial, trivial⟩, trivial⟩, ⟨te239_ok, trivial, trivial⟩⟩, ⟨te251_ok, ⟨te249_ok, trivial, trivial⟩, ⟨te253_ok, trivial, trivial⟩⟩⟩⟩, ⟨te291_ok, ⟨te269_ok, ⟨te258_ok, ⟨te257_ok, ⟨te255_ok, trivial, trivial⟩, trivial⟩, ⟨te259_ok, trivial, trivial⟩⟩, ⟨te280_ok, ⟨te278_ok, ⟨te275_ok, trivial, trivial⟩, trivial⟩, ⟨te284_ok, trivial, trivial⟩⟩⟩, ⟨te313_ok, ⟨te301_ok, ⟨te299_ok, ⟨te293_ok, trivial, trivial⟩, trivial⟩, ⟨te306_ok, trivial, trivial⟩⟩, ⟨te327_ok, ⟨te326_ok, trivial, trivial⟩, ⟨te329_ok, trivial, trivial⟩⟩⟩⟩⟩, ⟨te389_ok, ⟨te359_ok, ⟨te341_ok, ⟨te337_ok, ⟨te336_ok, ⟨te335_ok, trivial, trivial⟩, trivial⟩, ⟨te339_ok, trivial, trivial⟩⟩, ⟨te349_ok, ⟨te345_ok, ⟨te343_ok, trivial, trivial⟩, trivial⟩, ⟨te358_ok, trivial, trivial⟩⟩⟩, ⟨te380_ok, ⟨te372_ok, ⟨te362_ok, ⟨te361_ok, trivial, trivial⟩, trivial⟩, ⟨te378_ok, trivial, trivial⟩⟩, ⟨te385_ok, ⟨te382_ok, trivial, trivial⟩, ⟨te387_ok, trivial, trivial⟩⟩⟩⟩, ⟨te412_ok, ⟨te406_ok, ⟨te395_ok, ⟨te393_ok, ⟨te391_ok, trivial, trivial⟩, trivial⟩, ⟨te401_ok, trivial, trivial⟩⟩, ⟨te409_ok, ⟨te407_ok, trivial, trivial⟩, ⟨te410_ok, trivial, trivial⟩⟩⟩, ⟨te426_ok, ⟨te420_ok, ⟨te417_ok, ⟨te415_ok, trivial, trivial⟩, trivial⟩, ⟨te421_ok, trivial, trivial⟩⟩, ⟨te435_ok, ⟨te430_ok, trivial, trivial⟩, ⟨te436_ok, trivial, trivial⟩⟩⟩⟩⟩⟩⟩
def TY : TT := tr.find
theorem tyOK : TOK Tryz.prog TY := ⟨fun t e h => let r := tr.find_ok tr_all t e h; ⟨r.u, r.i⟩⟩
theorem mixed : Tryz.prog.follows .mixedOrders = true := by kernel_rfl
end Go.SL

/-! Strings that strings.Fields parts: what the loops go by. -/
namespace Go.SL
open Go
/-- Is it a space of ASCII? -/
def aspI (c : Nat) : Int := bif Nat.beq c 32 then 1 else bif Nat.ble 9 c && Nat.ble c 13 then 1 else 0
def aspArr : Array Value := ((List.range 256).map fun c => .int .u8 (aspI c)).toArray
def chr (s : ByteArray) (i : Nat) : UInt8 := s[i]?.getD 0
theorem chr_get {s : ByteArray} {i : Nat} (h : i < s.size) : s[i]? = some (chr s i) := by
  unfold chr
  rw [getElem?_pos s i h]
  rfl
theorem chr_lt (c : UInt8) : c.toNat < 256 := c.toNat_lt
theorem asp_get {c : Nat} (h : c < 256) : aspArr[c]? = some (.int .u8 (aspI c)) := by
  unfold aspArr
  simp [h]
/-- The first loop: how many fields, the last was a space, all bits. -/
def fN (s : ByteArray) : Nat → Int × Int × Int
  | 0 => (0, 1, 0)
  | i + 1 => (IntKind.i64.wrap ((fN s i).1 + IntKind.i64.wrap (BitVec.ofInt 64 (fN s i).2.1 &&& BitVec.ofInt 64 (IntKind.i64.wrap (BitVec.ofInt 64 (-1) ^^^ BitVec.ofInt 64 (IntKind.i64.wrap (aspI (chr s i).toNat))).toNat)).toNat),
      IntKind.i64.wrap (aspI (chr s i).toNat), IntKind.u8.wrap (BitVec.ofInt 8 (fN s i).2.2 ||| BitVec.ofInt 8 ((chr s i).toNat : Int)).toNat)
/-- How many spaces there are ahead. -/
def fC (s : ByteArray) : Nat → Nat
  | 0 => 0
  | i + 1 => bif aspI (chr s i).toNat == 0 then fC s i else fC s i + 1
/-- Words with one space between, m of them. -/
def words (s : ByteArray) (m : Nat) : Bool :=
  Nat.blt 0 s.size && Nat.ble s.size 4096 && decide ((fN s s.size).1 = (m : Int)) && decide ((fN s s.size).2.2 < 128) && (aspI (chr s 0).toNat == 0) && Nat.beq (fC s s.size + 1) m &&
  (List.range s.size).all fun i => (aspI (chr s i).toNat == 0) || (Nat.blt (i + 1) s.size && (aspI (chr s (i + 1)).toNat == 0))
theorem fC_mono {s : ByteArray} {i j : Nat} (h : i ≤ j) : fC s i ≤ fC s j := by
  induction h with
  | refl => exact Nat.le_refl _
  | step _ ih =>
    refine Nat.le_trans ih ?_
    rw [fC]
    cases (aspI (chr s _).toNat == 0) <;> simp
structure Words (s : ByteArray) (m : Nat) : Prop where
  pos : 0 < s.size
  le : s.size ≤ 4096
  n : (fN s s.size).1 = (m : Int)
  ascii : (fN s s.size).2.2 < 128
  first : aspI (chr s 0).toNat = 0
  count : fC s s.size + 1 = m
  next : ∀ i, i < s.size → aspI (chr s i).toNat ≠ 0 → i + 1 < s.size ∧ aspI (chr s (i + 1)).toNat = 0
theorem words_of {s : ByteArray} {m : Nat} (h : words s m = true) : Words s m := by
  unfold words at h
  simp only [Bool.and_eq_true, List.all_eq_true, Bool.or_eq_true, List.mem_range] at h
  obtain ⟨⟨⟨⟨⟨⟨h1, h2⟩, h3⟩, h4⟩, h5⟩, h6⟩, h7⟩ := h
  refine ⟨Nat.lt_of_succ_le (Nat.le_of_ble_eq_true h1), Nat.le_of_ble_eq_true h2, of_decide_eq_true h3, of_decide_eq_true h4, by simpa using h5, Nat.eq_of_beq_eq_true h6, fun i hi ha => ?_⟩
  rcases h7 i hi with h | h
  · exact absurd (by simpa using h) ha
  · exact ⟨Nat.lt_of_succ_le (Nat.le_of_ble_eq_true h.1), by simpa using h.2⟩
theorem Words.lt {s : ByteArray} {m i : Nat} (h : Words s m) (hi : i ≤ s.size) : fC s i < m := by
  have := fC_mono (s := s) hi
  have := h.count
  omega
theorem asp_ld {c : Nat} (h : c < 256) : ldP TY 5 aspArr (c * 1) = some (.int .u8 (aspI c)) := by
  have e : ldP TY 5 aspArr (c * 1) = aspArr[c * 1]? := rfl
  rw [e, Nat.mul_one]
  exact asp_get h
theorem fC_le (s : ByteArray) (i : Nat) : fC s i ≤ i := by
  induction i with
  | zero => exact Nat.le_refl _
  | succ i ih => rw [fC]; cases (aspI (chr s i).toNat == 0) <;> simp <;> omega
theorem fC_same {s : ByteArray} {i : Nat} (h : (aspI (chr s i).toNat == 0) = true) : Value.int .i64 ((fC s i : Nat) : Int) = .int .i64 ((fC s (i + 1) : Nat) : Int) := by
  rw [fC, h]; rfl
theorem fC_inc {s : ByteArray} {i : Nat} (h : (aspI (chr s i).toNat == 0) = false) (hi : i ≤ 4096) : Value.int .i64 (IntKind.i64.wrap (((fC s i : Nat) : Int) + 1)) = .int .i64 ((fC s (i + 1) : Nat) : Int) := by
  have := fC_le s i
  rw [fC, h, wrap_i64_of (by omega) (by omega)]; rfl
theorem nat_inc {i : Nat} (hi : i ≤ 4096) : Value.int .i64 (IntKind.i64.wrap (((i : Nat) : Int) + 1)) = .int .i64 ((i + 1 : Nat) : Int) := by
  rw [wrap_i64_of (by omega) (by omega)]; rfl
theorem wrap_zero_add {k : IntKind} : True := trivial
def encS (s : ByteArray) : List Value := [.string s]
end Go.SL
