import Derived.Test.YtkfkfpgnapncaaaGreatDoorSlQ
/-! The program's structs, as records; how each lies in cells. -/
namespace Go.SL
open Go
def fz : Nat → Int := fun _ => 0
def fb : Nat → Bool := fun _ => false
def upd {α : Type} (f : Nat → α) (i : Nat) (x : α) : Nat → α := fun j => bif Nat.beq j i then x else f j
def vec4 {α : Type} (a b c d : α) : Nat → α := fun | 0 => a | 1 => b | 2 => c | _ => d
def vec16 {α : Type} (a0 a1 a2 a3 a4 a5 a6 a7 a8 a9 a10 a11 a12 a13 a14 a15 : α) : Nat → α := fun | 0 => a0 | 1 => a1 | 2 => a2 | 3 => a3 | 4 => a4 | 5 => a5 | 6 => a6 | 7 => a7 | 8 => a8 | 9 => a9 | 10 => a10 | 11 => a11 | 12 => a12 | 13 => a13 | 14 => a14 | _ => a15
def encB16 (f : Nat → Int) : List Value := [.int .u8 (f 0), .int .u8 (f 1), .int .u8 (f 2), .int .u8 (f 3), .int .u8 (f 4), .int .u8 (f 5), .int .u8 (f 6), .int .u8 (f 7), .int .u8 (f 8), .int .u8 (f 9), .int .u8 (f 10), .int .u8 (f 11), .int .u8 (f 12), .int .u8 (f 13), .int .u8 (f 14), .int .u8 (f 15)]

structure Choice where
  kind : Int
  hart : Int
  pick : Int

instance : Inhabited Choice := ⟨⟨0, 0, 0⟩⟩

def encChoice (x : Choice) : List Value := [.int .i64 x.kind, .int .i64 x.hart, .int .i64 x.pick]

theorem encChoice_len (x : Choice) : (encChoice x).length = 3 := rfl

structure Ran where
  dids : Value
  harts : Value
  memory : Value
  rests : Bool

instance : Inhabited Ran := ⟨⟨undef, undef, undef, false⟩⟩

def encRan (x : Ran) : List Value := [x.dids, x.harts, x.memory, .bool x.rests]

theorem encRan_len (x : Ran) : (encRan x).length = 4 := rfl

structure Access where
  kind : Int
  addr : Int
  width : Int
  value : Int
  op : Int
  aq : Bool
  rl : Bool

instance : Inhabited Access := ⟨⟨0, 0, 0, 0, 0, false, false⟩⟩

def encAccess (x : Access) : List Value := [.int .i64 x.kind, .int .u32 x.addr, .int .i64 x.width, .int .u32 x.value, .int .i64 x.op, .bool x.aq, .bool x.rl]

theorem encAccess_len (x : Access) : (encAccess x).length = 7 := rfl

structure Answer where
  value : Int
  ok : Bool

instance : Inhabited Answer := ⟨⟨0, false⟩⟩

def encAnswer (x : Answer) : List Value := [.int .u32 x.value, .bool x.ok]

theorem encAnswer_len (x : Answer) : (encAnswer x).length = 2 := rfl

structure Commit where
  pc : Int
  word : Int
  access : Access
  answer : Answer
  rd : Int
  value : Int
  cause : Int

instance : Inhabited Commit := ⟨⟨0, 0, default, default, 0, 0, 0⟩⟩

def encCommit (x : Commit) : List Value := [.int .u32 x.pc, .int .u32 x.word, .int .i64 x.access.kind, .int .u32 x.access.addr, .int .i64 x.access.width, .int .u32 x.access.value, .int .i64 x.access.op, .bool x.access.aq, .bool x.access.rl, .int .u32 x.answer.value, .bool x.answer.ok, .int .i64 x.rd, .int .u32 x.value, .int .i64 x.cause]

theorem encCommit_len (x : Commit) : (encCommit x).length = 14 := rfl

structure Store where
  addr : Int
  width : Int
  value : Int

instance : Inhabited Store := ⟨⟨0, 0, 0⟩⟩

def encStore (x : Store) : List Value := [.int .u32 x.addr, .int .i64 x.width, .int .u32 x.value]

theorem encStore_len (x : Store) : (encStore x).length = 3 := rfl

structure Did where
  kind : Int
  hart : Int
  commit : Commit
  store : Store
  own : Int

instance : Inhabited Did := ⟨⟨0, 0, default, default, 0⟩⟩

def encDid (x : Did) : List Value := [.int .i64 x.kind, .int .i64 x.hart, .int .u32 x.commit.pc, .int .u32 x.commit.word, .int .i64 x.commit.access.kind, .int .u32 x.commit.access.addr, .int .i64 x.commit.access.width, .int .u32 x.commit.access.value, .int .i64 x.commit.access.op, .bool x.commit.access.aq, .bool x.commit.access.rl, .int .u32 x.commit.answer.value, .bool x.commit.answer.ok, .int .i64 x.commit.rd, .int .u32 x.commit.value, .int .i64 x.commit.cause, .int .u32 x.store.addr, .int .i64 x.store.width, .int .u32 x.store.value, .int .i64 x.own]

theorem encDid_len (x : Did) : (encDid x).length = 20 := rfl

structure FairRace where
  machine : Option Addr
  on : Nat → Bool

instance : Inhabited FairRace := ⟨⟨none, fb⟩⟩

def encFairRace (x : FairRace) : List Value := [.pointer x.machine, .bool (x.on 0), .bool (x.on 1), .bool (x.on 2), .bool (x.on 3)]

theorem encFairRace_len (x : FairRace) : (encFairRace x).length = 5 := rfl

structure Hart where
  id : Int
  pc : Int
  regs : Nat → Int
  cause : Int

instance : Inhabited Hart := ⟨⟨0, 0, fz, 0⟩⟩

def encHart (x : Hart) : List Value := [.int .i64 x.id, .int .u32 x.pc, .int .u32 (x.regs 0), .int .u32 (x.regs 1), .int .u32 (x.regs 2), .int .u32 (x.regs 3), .int .u32 (x.regs 4), .int .u32 (x.regs 5), .int .u32 (x.regs 6), .int .u32 (x.regs 7), .int .u32 (x.regs 8), .int .u32 (x.regs 9), .int .u32 (x.regs 10), .int .u32 (x.regs 11), .int .u32 (x.regs 12), .int .u32 (x.regs 13), .int .u32 (x.regs 14), .int .u32 (x.regs 15), .int .u32 (x.regs 16), .int .u32 (x.regs 17), .int .u32 (x.regs 18), .int .u32 (x.regs 19), .int .u32 (x.regs 20), .int .u32 (x.regs 21), .int .u32 (x.regs 22), .int .u32 (x.regs 23), .int .u32 (x.regs 24), .int .u32 (x.regs 25), .int .u32 (x.regs 26), .int .u32 (x.regs 27), .int .u32 (x.regs 28), .int .u32 (x.regs 29), .int .u32 (x.regs 30), .int .u32 (x.regs 31), .int .i64 x.cause]

theorem encHart_len (x : Hart) : (encHart x).length = 35 := rfl

structure Setup where
  codes : Value
  memory : Value
  sets : Int
  ways : Int

instance : Inhabited Setup := ⟨⟨undef, undef, 0, 0⟩⟩

def encSetup (x : Setup) : List Value := [x.codes, x.memory, .int .i64 x.sets, .int .i64 x.ways]

theorem encSetup_len (x : Setup) : (encSetup x).length = 4 := rfl

structure MachineMachine where
  parts : Option Addr

instance : Inhabited MachineMachine := ⟨⟨none⟩⟩

def encMachineMachine (x : MachineMachine) : List Value := [.pointer x.parts]

theorem encMachineMachine_len (x : MachineMachine) : (encMachineMachine x).length = 1 := rfl

structure MachineParts where
  cores : Value
  caches : Value
  n : Option Addr
  h : Option Addr

instance : Inhabited MachineParts := ⟨⟨undef, undef, none, none⟩⟩

def encMachineParts (x : MachineParts) : List Value := [x.cores, x.caches, .pointer x.n, .pointer x.h]

theorem encMachineParts_len (x : MachineParts) : (encMachineParts x).length = 4 := rfl

structure ScriptRun where
  machine : Option Addr
  dids : Value

instance : Inhabited ScriptRun := ⟨⟨none, undef⟩⟩

def encScriptRun (x : ScriptRun) : List Value := [.pointer x.machine, x.dids]

theorem encScriptRun_len (x : ScriptRun) : (encScriptRun x).length = 2 := rfl

structure CoreState where
  h : Hart
  code : Value
  size : Int

instance : Inhabited CoreState := ⟨⟨default, undef, 0⟩⟩

def encCoreState (x : CoreState) : List Value := [.int .i64 x.h.id, .int .u32 x.h.pc, .int .u32 (x.h.regs 0), .int .u32 (x.h.regs 1), .int .u32 (x.h.regs 2), .int .u32 (x.h.regs 3), .int .u32 (x.h.regs 4), .int .u32 (x.h.regs 5), .int .u32 (x.h.regs 6), .int .u32 (x.h.regs 7), .int .u32 (x.h.regs 8), .int .u32 (x.h.regs 9), .int .u32 (x.h.regs 10), .int .u32 (x.h.regs 11), .int .u32 (x.h.regs 12), .int .u32 (x.h.regs 13), .int .u32 (x.h.regs 14), .int .u32 (x.h.regs 15), .int .u32 (x.h.regs 16), .int .u32 (x.h.regs 17), .int .u32 (x.h.regs 18), .int .u32 (x.h.regs 19), .int .u32 (x.h.regs 20), .int .u32 (x.h.regs 21), .int .u32 (x.h.regs 22), .int .u32 (x.h.regs 23), .int .u32 (x.h.regs 24), .int .u32 (x.h.regs 25), .int .u32 (x.h.regs 26), .int .u32 (x.h.regs 27), .int .u32 (x.h.regs 28), .int .u32 (x.h.regs 29), .int .u32 (x.h.regs 30), .int .u32 (x.h.regs 31), .int .i64 x.h.cause, x.code, .int .i64 x.size]

theorem encCoreState_len (x : CoreState) : (encCoreState x).length = 37 := rfl

structure CoreCore where
  state : CoreState
  b : Option Addr
  first : Int
  reserved : Option Addr

instance : Inhabited CoreCore := ⟨⟨default, none, 0, none⟩⟩

def encCoreCore (x : CoreCore) : List Value := [.int .i64 x.state.h.id, .int .u32 x.state.h.pc, .int .u32 (x.state.h.regs 0), .int .u32 (x.state.h.regs 1), .int .u32 (x.state.h.regs 2), .int .u32 (x.state.h.regs 3), .int .u32 (x.state.h.regs 4), .int .u32 (x.state.h.regs 5), .int .u32 (x.state.h.regs 6), .int .u32 (x.state.h.regs 7), .int .u32 (x.state.h.regs 8), .int .u32 (x.state.h.regs 9), .int .u32 (x.state.h.regs 10), .int .u32 (x.state.h.regs 11), .int .u32 (x.state.h.regs 12), .int .u32 (x.state.h.regs 13), .int .u32 (x.state.h.regs 14), .int .u32 (x.state.h.regs 15), .int .u32 (x.state.h.regs 16), .int .u32 (x.state.h.regs 17), .int .u32 (x.state.h.regs 18), .int .u32 (x.state.h.regs 19), .int .u32 (x.state.h.regs 20), .int .u32 (x.state.h.regs 21), .int .u32 (x.state.h.regs 22), .int .u32 (x.state.h.regs 23), .int .u32 (x.state.h.regs 24), .int .u32 (x.state.h.regs 25), .int .u32 (x.state.h.regs 26), .int .u32 (x.state.h.regs 27), .int .u32 (x.state.h.regs 28), .int .u32 (x.state.h.regs 29), .int .u32 (x.state.h.regs 30), .int .u32 (x.state.h.regs 31), .int .i64 x.state.h.cause, x.state.code, .int .i64 x.state.size, .pointer x.b, .int .i64 x.first, .pointer x.reserved]

theorem encCoreCore_len (x : CoreCore) : (encCoreCore x).length = 40 := rfl

structure NetNet where
  l : Value
  most : Int

instance : Inhabited NetNet := ⟨⟨undef, 0⟩⟩

def encNetNet (x : NetNet) : List Value := [x.l, .int .i64 x.most]

theorem encNetNet_len (x : NetNet) : (encNetNet x).length = 2 := rfl

structure HomeHome where
  m : Option Addr
  entries : Value

instance : Inhabited HomeHome := ⟨⟨none, undef⟩⟩

def encHomeHome (x : HomeHome) : List Value := [.pointer x.m, x.entries]

theorem encHomeHome_len (x : HomeHome) : (encHomeHome x).length = 2 := rfl

structure Entry where
  owner : Int
  sharers : Nat → Bool
  busy : Bool
  asks : Int
  kind : Int
  waits : Int
  told : Bool
  queue : Value

instance : Inhabited Entry := ⟨⟨0, fb, false, 0, 0, 0, false, undef⟩⟩

def encEntry (x : Entry) : List Value := [.int .i64 x.owner, .bool (x.sharers 0), .bool (x.sharers 1), .bool (x.sharers 2), .bool (x.sharers 3), .bool x.busy, .int .i64 x.asks, .int .i64 x.kind, .int .i64 x.waits, .bool x.told, x.queue]

theorem encEntry_len (x : Entry) : (encEntry x).length = 11 := rfl

structure CacheCache where
  id : Int
  l : Option Addr
  asked : Option Addr
  given : Option Addr

instance : Inhabited CacheCache := ⟨⟨0, none, none, none⟩⟩

def encCacheCache (x : CacheCache) : List Value := [.int .i64 x.id, .pointer x.l, .pointer x.asked, .pointer x.given]

theorem encCacheCache_len (x : CacheCache) : (encCacheCache x).length = 4 := rfl

structure Line where
  number : Int
  state : Int
  bytes : Nat → Int

instance : Inhabited Line := ⟨⟨0, 0, fz⟩⟩

def encLine (x : Line) : List Value := [.int .u32 x.number, .int .i64 x.state, .int .u8 (x.bytes 0), .int .u8 (x.bytes 1), .int .u8 (x.bytes 2), .int .u8 (x.bytes 3), .int .u8 (x.bytes 4), .int .u8 (x.bytes 5), .int .u8 (x.bytes 6), .int .u8 (x.bytes 7), .int .u8 (x.bytes 8), .int .u8 (x.bytes 9), .int .u8 (x.bytes 10), .int .u8 (x.bytes 11), .int .u8 (x.bytes 12), .int .u8 (x.bytes 13), .int .u8 (x.bytes 14), .int .u8 (x.bytes 15)]

theorem encLine_len (x : Line) : (encLine x).length = 18 := rfl

structure ImageImage where
  b : Value

instance : Inhabited ImageImage := ⟨⟨undef⟩⟩

def encImageImage (x : ImageImage) : List Value := [x.b]

theorem encImageImage_len (x : ImageImage) : (encImageImage x).length = 1 := rfl

structure Msg where
  kind : Int
  from_ : Int
  to_ : Int
  line : Int
  bytes : Nat → Int

instance : Inhabited Msg := ⟨⟨0, 0, 0, 0, fz⟩⟩

def encMsg (x : Msg) : List Value := [.int .i64 x.kind, .int .i64 x.from_, .int .i64 x.to_, .int .u32 x.line, .int .u8 (x.bytes 0), .int .u8 (x.bytes 1), .int .u8 (x.bytes 2), .int .u8 (x.bytes 3), .int .u8 (x.bytes 4), .int .u8 (x.bytes 5), .int .u8 (x.bytes 6), .int .u8 (x.bytes 7), .int .u8 (x.bytes 8), .int .u8 (x.bytes 9), .int .u8 (x.bytes 10), .int .u8 (x.bytes 11), .int .u8 (x.bytes 12), .int .u8 (x.bytes 13), .int .u8 (x.bytes 14), .int .u8 (x.bytes 15)]

theorem encMsg_len (x : Msg) : (encMsg x).length = 20 := rfl

structure BufferWaiting where
  store : Store

instance : Inhabited BufferWaiting := ⟨⟨default⟩⟩

def encBufferWaiting (x : BufferWaiting) : List Value := [.int .u32 x.store.addr, .int .i64 x.store.width, .int .u32 x.store.value]

theorem encBufferWaiting_len (x : BufferWaiting) : (encBufferWaiting x).length = 3 := rfl

structure BufferBuffer where
  ring : Nat → BufferWaiting
  first : Int
  n : Int

instance : Inhabited BufferBuffer := ⟨⟨fun _ => default, 0, 0⟩⟩

def encBufferBuffer (x : BufferBuffer) : List Value := [.int .u32 (((x.ring 0).store).addr), .int .i64 (((x.ring 0).store).width), .int .u32 (((x.ring 0).store).value), .int .u32 (((x.ring 1).store).addr), .int .i64 (((x.ring 1).store).width), .int .u32 (((x.ring 1).store).value), .int .u32 (((x.ring 2).store).addr), .int .i64 (((x.ring 2).store).width), .int .u32 (((x.ring 2).store).value), .int .u32 (((x.ring 3).store).addr), .int .i64 (((x.ring 3).store).width), .int .u32 (((x.ring 3).store).value), .int .i64 x.first, .int .i64 x.n]

theorem encBufferBuffer_len (x : BufferBuffer) : (encBufferBuffer x).length = 14 := rfl

structure LinesLines where
  sets : Value
  ways : Int

instance : Inhabited LinesLines := ⟨⟨undef, 0⟩⟩

def encLinesLines (x : LinesLines) : List Value := [x.sets, .int .i64 x.ways]

theorem encLinesLines_len (x : LinesLines) : (encLinesLines x).length = 2 := rfl

structure CoreAct where
  core : Option Addr
  m : Option Addr
  pick : Int
  word : Int
  a : Access

instance : Inhabited CoreAct := ⟨⟨none, none, 0, 0, default⟩⟩

def encCoreAct (x : CoreAct) : List Value := [.pointer x.core, .pointer x.m, .int .i64 x.pick, .int .u32 x.word, .int .i64 x.a.kind, .int .u32 x.a.addr, .int .i64 x.a.width, .int .u32 x.a.value, .int .i64 x.a.op, .bool x.a.aq, .bool x.a.rl]

theorem encCoreAct_len (x : CoreAct) : (encCoreAct x).length = 11 := rfl

structure HomeStop where
  why : Int

instance : Inhabited HomeStop := ⟨⟨0⟩⟩

def encHomeStop (x : HomeStop) : List Value := [.int .i64 x.why]

theorem encHomeStop_len (x : HomeStop) : (encHomeStop x).length = 1 := rfl

structure HomeSent where
  l : Value

instance : Inhabited HomeSent := ⟨⟨undef⟩⟩

def encHomeSent (x : HomeSent) : List Value := [x.l]

theorem encHomeSent_len (x : HomeSent) : (encHomeSent x).length = 1 := rfl

structure HomeWork where
  sent : HomeSent
  entry : Option Addr
  h : Option Addr
  line : Int

instance : Inhabited HomeWork := ⟨⟨default, none, none, 0⟩⟩

def encHomeWork (x : HomeWork) : List Value := [x.sent.l, .pointer x.entry, .pointer x.h, .int .u32 x.line]

theorem encHomeWork_len (x : HomeWork) : (encHomeWork x).length = 4 := rfl

structure Inst where
  op : Int
  rd : Int
  rs1 : Int
  rs2 : Int
  imm : Int
  aq : Bool
  rl : Bool

instance : Inhabited Inst := ⟨⟨0, 0, 0, 0, 0, false, false⟩⟩

def encInst (x : Inst) : List Value := [.int .i64 x.op, .int .i64 x.rd, .int .i64 x.rs1, .int .i64 x.rs2, .int .u32 x.imm, .bool x.aq, .bool x.rl]

theorem encInst_len (x : Inst) : (encInst x).length = 7 := rfl

structure CoreWait where
  l : Value

instance : Inhabited CoreWait := ⟨⟨undef⟩⟩

def encCoreWait (x : CoreWait) : List Value := [x.l]

theorem encCoreWait_len (x : CoreWait) : (encCoreWait x).length = 1 := rfl

structure NetWant where
  home : Bool
  bytes : Bool

instance : Inhabited NetWant := ⟨⟨false, false⟩⟩

def encNetWant (x : NetWant) : List Value := [.bool x.home, .bool x.bytes]

theorem encNetWant_len (x : NetWant) : (encNetWant x).length = 2 := rfl

structure CacheStop where
  why : Int

instance : Inhabited CacheStop := ⟨⟨0⟩⟩

def encCacheStop (x : CacheStop) : List Value := [.int .i64 x.why]

theorem encCacheStop_len (x : CacheStop) : (encCacheStop x).length = 1 := rfl

structure HartStop where
  why : Int

instance : Inhabited HartStop := ⟨⟨0⟩⟩

def encHartStop (x : HartStop) : List Value := [.int .i64 x.why]

theorem encHartStop_len (x : HartStop) : (encHartStop x).length = 1 := rfl

structure IsaForm where
  mask : Int
  rd : Bool
  rs1 : Bool
  rs2 : Bool
  a : Bool
  may : Value
  put : Value
  take : Value
  told : Value

instance : Inhabited IsaForm := ⟨⟨0, false, false, false, false, undef, undef, undef, undef⟩⟩

def encIsaForm (x : IsaForm) : List Value := [.int .u32 x.mask, .bool x.rd, .bool x.rs1, .bool x.rs2, .bool x.a, x.may, x.put, x.take, x.told]

theorem encIsaForm_len (x : IsaForm) : (encIsaForm x).length = 9 := rfl

structure IsaRow where
  op : Int
  name : ByteArray
  form : IsaForm
  bits : Int

instance : Inhabited IsaRow := ⟨⟨0, ⟨#[]⟩, default, 0⟩⟩

def encIsaRow (x : IsaRow) : List Value := [.int .i64 x.op, .string x.name, .int .u32 x.form.mask, .bool x.form.rd, .bool x.form.rs1, .bool x.form.rs2, .bool x.form.a, x.form.may, x.form.put, x.form.take, x.form.told, .int .u32 x.bits]

theorem encIsaRow_len (x : IsaRow) : (encIsaRow x).length = 12 := rfl

end Go.SL