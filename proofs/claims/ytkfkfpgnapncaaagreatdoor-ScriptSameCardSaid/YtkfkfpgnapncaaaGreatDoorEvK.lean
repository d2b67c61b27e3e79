import Derived.Test.YtkfkfpgnapncaaaGreatDoorEvJ
set_option linter.unusedSimpArgs false
set_option linter.unusedVariables false
/-! The computed walk. -/
noncomputable section
namespace Go.EV
open Go Go.RowKit Go.SL

inductive Ex where
  | normal
  | exit (id : Nat)
  | ret
  | pan (v : Value)

/-- What is deferred. -/
inductive AD where
  | coll (D : Nat)
  | fn (f : FuncId) (cap args : Array Value)

structure Cs where
  env : En
  ds : List AD
  st : St

def putE (nt : Nat) (env : En) (dst : Option Tmp) (v : Value) : Option En :=
  match dst with
  | none => some env
  | some d => match Nat.blt d nt && Tri.fits d with
    | true => some (env.set d (some v))
    | false => none

/-- One operation of a region that does not draw. -/
def ev1 (T : TT) (G : Nat) (orc : Orc) (rd : Bool) (nt : Nat) (ops : Array Oper) (o : Oper) (cs : Cs) : Option (Ex × Cs) :=
  match wantE ops cs.env o with
  | none => none
  | some false => match putE nt cs.env o.dst undef with
    | some env => some (.normal, { cs with env := env })
    | none => none
  | some true => match evOp T G orc cs.env cs.st o.op with
    | some (.val v st) => match putE nt cs.env o.dst v with
      | some env => some (.normal, { cs with env := env, st := st })
      | none => none
    | some (.pan v st) => some (.pan v, { cs with st := st })
    | none => match rd, o.op with
      | false, .defer c => match c.callee, o.dst with
        | .value x, none => match evO G cs.env x, evL G cs.env c.args.toList with
          | some (.func (.func f) fs cap), some l => some (.normal, { cs with ds := .fn f cap (fs ++ l.toArray) :: cs.ds })
          | _, _ => none
        | _, _ => none
      | _, _ => none

def evSeq (T : TT) (G : Nat) (orc : Orc) (rd : Bool) (nt : Nat) (ops : Array Oper) : List Oper → Cs → Option (Ex × Cs)
  | [], cs => some (.normal, cs)
  | o :: r, cs => match ev1 T G orc rd nt ops o cs with
    | some (.normal, cs') => evSeq T G orc rd nt ops r cs'
    | r => r

/-! ### Regions that draw -/
def bitOf (i : Nat) : Nat := 2 ^ i
def has (m i : Nat) : Bool := Nat.testBit m i
/-- What an operation waits for. -/
def preds (o : Oper) : Nat := o.after.toList.foldl (fun m e => match Region.binds .any e with | true => Nat.lor m (bitOf e.on) | false => m) 0
def orAll (p : Nat) : Nat → List Nat → Nat → Nat
  | _, [], acc => acc
  | i, m :: r, acc => orAll p (i + 1) r (match has p i with | true => Nat.lor acc m | false => acc)
/-- All that comes ahead of it for sure, given that of those ahead of it. -/
def ancs : List Oper → (done : List Nat) → List Nat
  | [], done => done
  | o :: r, done => ancs r (done ++ [orAll (preds o) 0 done (preds o)])

def eqV : Nat → Value → Value → Bool
  | 0, _, _ => false
  | d + 1, x, y =>
    match x, y with
    | .bool a, .bool b => a == b
    | .int k a, .int k' b => decide (k = k') && decide (a = b)
    | .string a, .string b => a.data.toList == b.data.toList
    | .pointer none, .pointer none => true
    | .pointer (some ⟨a, o, none⟩), .pointer (some ⟨b, o', none⟩) => Nat.beq a b && Nat.beq o o'
    | .slice none n c, .slice none n' c' => Nat.beq n n' && Nat.beq c c'
    | .slice (some ⟨a, o, none⟩) n c, .slice (some ⟨b, o', none⟩) n' c' => Nat.beq a b && Nat.beq o o' && Nat.beq n n' && Nat.beq c c'
    | .map none, .map none => true
    | .map (some a), .map (some b) => Nat.beq a b
    | .func (.func f) fs cs, .func (.func g) fs' cs' => Nat.beq f g && eqL d fs.toList fs'.toList && eqL d cs.toList cs'.toList
    | .func (.yield f) fs cs, .func (.yield g) fs' cs' => Nat.beq f g && eqL d fs.toList fs'.toList && eqL d cs.toList cs'.toList
    | .nilFunc, .nilFunc => true
    | .iface t a, .iface t' b => Nat.beq t t' && eqV d a b
    | .nilIface, .nilIface => true
    | .agg a, .agg b => eqL d a.toList b.toList
    | .tuple a, .tuple b => eqL d a.toList b.toList
    | _, _ => false
  where eqL (d : Nat) : List Value → List Value → Bool
  | [], [] => true
  | x :: r, y :: r' => eqV d x y && eqL d r r'
  | _, _ => false

/-- How an operation was met. -/
inductive TK where
  | pure (v : Value)
  | look (v : Value)
  | act (v : Value)
  | flt (ao : AO) (mk : Mk) (x : Nat)
  | mmap (x : Nat)                  -- a map that is written out here
  | ins (kv v : Value)              -- one of its entries
def TK.val : TK → Value
  | .pure v | .look v | .act v => v
  | .flt _ mk x => mk.at x
  | .mmap x => .map (some x)
  | .ins _ _ => undef

abbrev Fls := List (Nat × Nat × AO)
/-- Not yet taken in by one of these acts. -/
def unm (A : List Nat) (as : List Nat) (f : Nat) : Bool := as.all fun a => !has (A.getD a 0) f
/-- With those blocks that an operation waits for. -/
def withF (A : List Nat) (m : Nat) (as : List Nat) (H : Tri AO) : Fls → Tri AO
  | [] => H
  | (i, x, ao) :: r => match has m i && unm A as i with
    | true => (withF A m as H r).set x (some ao)
    | false => withF A m as H r

structure Ds where
  env : En
  fl : Fls              -- blocks laid at any time: the operation, the number, what it holds; the last one first
  ks : List TK          -- the operations so far
  acts : List Nat       -- the acts so far
  sts : List St         -- what stood ahead of the first act, behind each act
  mp : Option (Nat × Nat)              -- a map that is written out here: the operation, its number
  ins : List (Nat × Value × Value)     -- its entries: the operation, the key, the value

inductive Dr where
  | go (d : Ds)
  | pan (d : Ds) (v : Value) (st : St)   -- it panics here; all behind it wait for it

def opSlots (ops : Array Oper) (o : Oper) : List Nat :=
  (o.op.operands.toList.filterMap fun | .tmp t => some t | _ => none) ++ (match o.guard with
    | some (j, _) => match (ops[j]?).bind (·.dst) with | some d => [d] | none => []
    | none => [])
def pickE (env : En) : List Nat → En
  | [] => .leaf
  | s :: r => match env.get s, Tri.fits s with
    | some v, true => (pickE env r).set s (some v)
    | _, _ => pickE env r

/-- Each writes a slot of its own, and looks at what those write that it waits for. -/
def statOk (ops : Array Oper) (A : List Nat) : Nat → List Oper → Bool
  | _, [] => true
  | i, o :: r => (let sl := opSlots ops o
    statOne (A.getD i 0) i sl o.dst 0 ops.toList) && statOk ops A (i + 1) r
  where statOne (m i : Nat) (sl : List Nat) (dst : Option Tmp) : Nat → List Oper → Bool
  | _, [] => true
  | j, p :: r => (match p.dst with
    | none => true
    | some d => (match dst with | some d' => Nat.beq i j || !Nat.beq d d' | none => true) && (!(sl.any (Nat.beq d)) || has m j)) && statOne m i sl dst (j + 1) r
/-- What is waited for stands ahead. -/
def lowOk : Nat → List Nat → Bool
  | _, [] => true
  | i, m :: r => Nat.beq (Nat.shiftRight m i) 0 && lowOk (i + 1) r

def lastOk (m : Nat) : Option Nat → Bool
  | none => true
  | some e => has m e
def edgesLow (ops : Array Oper) : Bool := (List.range ops.size).all (fun i => (ops[i]?).all fun o => o.after.all fun e => !(Region.binds .any e) || Nat.blt e.on i)

/-- Two keys that are not the same. -/
def neK : Value → Value → Bool
  | .int k a, .int k' b => decide (k = k') && !(a == b)
  | .string a, .string b => !(a == b)
  | _, _ => false
def isMk : Op → Bool
  | .makeMap _ none => true
  | _ => false
/-- An entry of a map that is written out: its key, its value. -/
def insV (T : TT) (G : Nat) (env : En) (x₀ : Nat) (o : Op) : Option (Value × Value) :=
  match o with
  | .insert t m kx x => match T t, evO G env m, evO G env kx, evO G env x with
    | some e, some (.map (some y)), some kv, some v => match e.d with
      | .map kt _ => match T kt with
        | some g => match Nat.beq y x₀ && plainKey g.d kv with
          | true => some (kv, v)
          | false => none
        | none => none
      | _ => none
    | _, _, _, _ => none
  | _ => none
def draw2 (T : TT) (G : Nat) (nt n₀ m : Nat) (i : Nat) (o : Oper) (env' : En) (d : Ds) : Option Ds :=
  match isMk o.op, d.mp with
  | true, none => match Tri.fits (n₀ + i), putE nt d.env o.dst (.map (some (n₀ + i))) with
    | true, some env => some { d with env := env, ks := d.ks ++ [.mmap (n₀ + i)], mp := some (i, n₀ + i) }
    | _, _ => none
  | true, some _ => none
  | false, some (f, x) => match insV T G env' x o.op, o.dst with
    | some (kv, v), none => match has m f && d.ins.all (fun q => neK q.2.1 kv && neK kv q.2.1) with
      | true => some { d with ks := d.ks ++ [.ins kv v], ins := d.ins ++ [(i, kv, v)] }
      | false => none
    | _, _ => none
  | false, none => none

def evDraw1 (T : TT) (G : Nat) (orc : Orc) (nt n₀ : Nat) (ops : Array Oper) (A : List Nat) (i : Nat) (o : Oper) (d : Ds) : Option Dr :=
  let anc := A.getD i 0
  let env' := pickE d.env (opSlots ops o)
  match d.sts.getLast? with
  | none => none
  | some s => match wantE ops env' o with
    | none => none
    | some false => match putE nt d.env o.dst undef with
      | some env => some (.go { d with env := env, ks := d.ks ++ [.pure undef] })
      | none => none
    | some true => match lookV T G orc.eq env' .leaf o.op with
      | some v => match putE nt d.env o.dst v with
        | some env => some (.go { d with env := env, ks := d.ks ++ [.pure v] })
        | none => none
      | none => match draw2 T G nt n₀ anc i o env' d with
      | some d' => some (.go d')
      | none => match lookV T G orc.eq env' (withF A anc d.acts s.h d.fl) o.op with
        | some v => match putE nt d.env o.dst v with
          | some env => some (.go { d with env := env, ks := d.ks ++ [.look v] })
          | none => none
        | none => match fltV T G env' o.op with
          | some (ao, mk) => match Tri.fits (n₀ + i), putE nt d.env o.dst (mk.at (n₀ + i)) with
            | true, some env => some (.go { d with env := env, fl := (i, n₀ + i, ao) :: d.fl, ks := d.ks ++ [.flt ao mk (n₀ + i)] })
            | _, _ => none
          | none => match lastOk anc d.acts.getLast?, evOp T G orc env' { s with h := withF A anc d.acts s.h d.fl } o.op with
            | true, some (.val v st) => match putE nt d.env o.dst v with
              | some env => some (.go { d with env := env, ks := d.ks ++ [.act v], acts := d.acts ++ [i], sts := d.sts ++ [st] })
              | none => none
            | true, some (.pan v st) => match (A.drop (i + 1)).all (has · i) with
              | true => some (.pan d v st)
              | false => none
            | _, _ => none

def evDrawL (T : TT) (G : Nat) (orc : Orc) (nt n₀ : Nat) (ops : Array Oper) (A : List Nat) : Nat → List Oper → Ds → Option Dr
  | _, [], d => some (.go d)
  | i, o :: r, d => match evDraw1 T G orc nt n₀ ops A i o d with
    | some (.go d') => evDrawL T G orc nt n₀ ops A (i + 1) r d'
    | r => r

/-- Is a look's value the same wherever it may be met? -/
def winOk (T : TT) (G : Nat) (E : List Nat) (A : List Nat) (acts : List Nat) (fl : Fls) (env' : En) (o : Op) (v : Value) (i m : Nat) : Nat → List St → Bool
  | _, [] => true
  | q, s :: r =>
    let as := acts.take q
    (match unm A as i && (acts.drop q).all (fun a => !has m a) with
      | true => match lookV T G E env' (withF A m as s.h fl) o with | some v' => eqV 5 v v' | none => false
      | false => true) && winOk T G E A acts fl env' o v i m (q + 1) r
def looksOk (T : TT) (G : Nat) (E : List Nat) (ops : Array Oper) (A : List Nat) (d : Ds) : Nat → List Oper → List TK → Bool
  | i, o :: r, k :: ks => (match k with
    | .look v => winOk T G E A d.acts d.fl (pickE d.env (opSlots ops o)) o.op v i (A.getD i 0) 0 d.sts
    | _ => true) && looksOk T G E ops A d (i + 1) r ks
  | _, _, _ => true

def clr : List Oper → En → En
  | [], e => e
  | o :: r, e => match o.dst with
    | some d => match Tri.fits d with
      | true => (clr r e).set d none
      | false => .leaf
    | none => clr r e

def layF : Fls → Tri AO → List Nat → List Nat → Tri AO
  | [], H, _, _ => H
  | (i, x, ao) :: r, H, A, as => match unm A as i with
    | true => (layF r H A as).set x (some ao)
    | false => layF r H A as

def evDraw (T : TT) (G : Nat) (orc : Orc) (nt : Nat) (ops : Array Oper) (cs : Cs) : Option (Ex × Cs) :=
  let A := ancs ops.toList []
  match statOk ops A 0 ops.toList && lowOk 0 A && edgesLow ops && Tri.fits nt with
  | false => none
  | true => match evDrawL T G orc nt cs.st.n ops A 0 ops.toList { env := cs.env, fl := [], ks := [], acts := [], sts := [{ cs.st with n := cs.st.n + ops.size }], mp := none, ins := [] } with
    | some (.pan d v st) => match looksOk T G orc.eq ops A d 0 ops.toList d.ks with
      | true => some (.pan v, { cs with env := clr ops.toList cs.env, st := st })
      | false => none
    | some (.go d) => match looksOk T G orc.eq ops A d 0 ops.toList d.ks, d.sts.getLast? with
      | true, some s => some (.normal, { env := d.env, ds := cs.ds, st := { s with h := match d.mp with | none => layF d.fl s.h A d.acts | some (_, x) => (layF d.fl s.h A d.acts).set x (some (.map (d.ins.map (·.2)) false)) } })
      | _, _ => none
    | none => none

/-! ### Code -/
def loopN (f : Cs → Option (Ex × Cs)) : Nat → Cs → Option (Ex × Cs)
  | 0, _ => none
  | m + 1, cs => match f cs with
    | some (.normal, cs') => loopN f m cs'
    | r => r

def evC (T : TT) (G : Nat) (orc : Orc) (rd : Bool) (nt lf : Nat) : Code → Cs → Option (Ex × Cs)
  | .skip, cs => some (.normal, cs)
  | .region _ ops dr, cs => match dr with
    | false => evSeq T G orc rd nt ops ops.toList cs
    | true => evDraw T G orc nt ops cs
  | .seq x y, cs => match evC T G orc rd nt lf x cs with
    | some (.normal, cs') => evC T G orc rd nt lf y cs'
    | r => r
  | .cond c x y, cs => match evO G cs.env c with
    | some (.bool true) => evC T G orc rd nt lf x cs
    | some (.bool false) => evC T G orc rd nt lf y cs
    | _ => none
  | .block id x, cs => match evC T G orc rd nt lf x cs with
    | some (.exit j, cs') => match Nat.beq j id with
      | true => some (.normal, cs')
      | false => some (.exit j, cs')
    | r => r
  | .loop x, cs => loopN (evC T G orc rd nt lf x) lf cs
  | .exit id, cs => some (.exit id, cs)
  | .ret, cs => some (.ret, cs)
  | .scope x, cs => evC T G orc rd nt lf x cs
  | .label _, cs => some (.normal, cs)
  | .rangeFunc g ps as b, cs => match rd, evO G cs.env g with
    | false, some (.func (.func f) fs cap) => match Tri.fits (cs.st.n + 1) with
      | true =>
        let D := cs.st.n
        let l := cs.st.n + 1
        let st := { h := (cs.st.h.set D (some (.defr true))).set l (some (.loop cs.env nt ps as b D .ready none)), n := cs.st.n + 2 : St }
        match orc.call f (fs.toList ++ [.func (.yield l) #[] #[]] ++ cap.toList) st with
        | some (.ok _, st') => match st'.h.get l with
          | some (.loop e' nt' ps' as' b' D' s pd) => match s with
            | .busy => none
            | _ =>
              let cs' : Cs := { env := cs.env, ds := .coll D :: cs.ds, st := { st' with h := st'.h.set l (some (.loop e' nt' ps' as' b' D' .exhausted pd)) } }
              match pd with
              | none => some (.normal, cs')
              | some .ret => some (.ret, cs')
              | some (.exit id) => some (.exit id, cs')
              | _ => none
          | _ => none
        | _ => none
      | false => none
    | _, _ => none
  | _, _ => none

/-! ### Functions -/
def envA : Nat → List Value → En → En
  | _, [], e => e
  | i, v :: r, e => envA (i + 1) r (e.set i (some v))

def resV (T : TT) (env : En) (H : Tri AO) : List ResultVar → Option (List Value)
  | [] => some []
  | r :: rs => match (match r with
      | .tmp t => env.get t
      | .cell p ty => match env.get p with
        | some (.pointer (some ⟨i, off, none⟩)) => match H.get i with
          | some (.cells cs _ _) => ldP T ty cs off
          | _ => none
        | _ => none), resV T env H rs with
    | some v, some l => some (v :: l)
    | _, _ => none

/-- A deferred function that begins with recover(); what recover tells. -/
def dfrV (T : TT) (G : Nat) (F : Nat → Option Func) (orc : Orc) (lf : Nat) (f : FuncId) (args : List Value) (rv : Value) (st : St) : Option St :=
  match F f with
  | some fn => match fn.body, fn.results.toList with
    | some (.seq (.region _ ops false) c₀), [] => match ops.toList with
      | [o] => match o.op, o.guard, o.dst with
        | .call c, none, some d => match c.callee with
          | .builtin .recover => match Nat.ble args.length fn.ntmps && Tri.fits fn.ntmps && Nat.blt d fn.ntmps with
            | true => match evC T G orc false fn.ntmps lf c₀ { env := (envA 0 args .leaf).set d (some rv), ds := [], st := st } with
              | some (.normal, cs) => match cs.ds with | [] => some cs.st | _ => none
              | some (.ret, cs) => match cs.ds with | [] => some cs.st | _ => none
              | _ => none
            | false => none
          | _ => none
        | _, _, _ => none
      | _ => none
    | _, _ => none
  | none => none

def finV (T : TT) (env : En) (fn : Func) (st : St) : Option (CR × St) :=
  match resV T env st.h fn.results.toList with
  | some l => some (.ok (mkRes l), st)
  | none => none

def callV (T : TT) (G : Nat) (F : Nat → Option Func) (orc : Orc) (lf : Nat) (f : FuncId) (args : List Value) (st : St) : Option (CR × St) :=
  match F f with
  | some fn => match fn.body with
    | some c => match Nat.ble args.length fn.ntmps && Tri.fits fn.ntmps with
      | true =>
        let leave (cs : Cs) : Option (CR × St) := match cs.ds with
          | [] => finV T cs.env fn cs.st
          | [.coll D] => match cs.st.h.get D, Tri.fits D with
            | some (.defr true), true => finV T cs.env fn { cs.st with h := cs.st.h.set D (some (.defr false)) }
            | _, _ => none
          | [.fn g cap as] => match dfrV T G F orc lf g (as.toList ++ cap.toList) .nilIface cs.st with
            | some st' => finV T cs.env fn st'
            | none => none
          | _ => none
        match evC T G orc false fn.ntmps lf c { env := envA 0 args .leaf, ds := [], st := st } with
        | some (.normal, cs) => leave cs
        | some (.ret, cs) => leave cs
        | some (.pan v, cs) => match cs.ds with
          | [] => some (.pan v, cs.st)
          | [.fn g cap as] => match dfrV T G F orc lf g (as.toList ++ cap.toList) v cs.st with
            | some st' => finV T cs.env fn st'
            | none => none
          | _ => none
        | _ => none
      | false => none
    | none => none
  | none => none

def zipA : List Nat → List Value → En → Option En
  | [], [], e => some e
  | p :: ps, v :: vs, e => zipA ps vs (e.set p (some v))
  | _, _, _ => none

def setL (l : Nat) (s : LoopState) (pd : Option Code) (st : St) : Option St :=
  match st.h.get l, Tri.fits l with
  | some (.loop e nt ps as b D _ _), true => some { st with h := st.h.set l (some (.loop e nt ps as b D s pd)) }
  | _, _ => none
def isRdy (l : Nat) (st : St) : Bool :=
  match st.h.get l with
  | some (.loop _ _ _ _ _ _ .ready none) => true
  | _ => false

def yldE (v : Bool) : Option St → Option (Value × St)
  | some st => some (.bool v, st)
  | none => none

def yldV (T : TT) (G : Nat) (orc : Orc) (lf : Nat) (l : Nat) (args : List Value) (st : St) : Option (Value × St) :=
  match st.h.get l with
  | some (.loop env nt ps as b _ _ _) => match zipA ps.toList args env, ps.toList.all (fun p => Nat.blt p nt) && Tri.fits nt with
    | some env', true => match evC T G orc true nt lf as { env := env', ds := [], st := st } with
      | some (.normal, cs) => match isRdy l cs.st, setL l .busy none cs.st with
        | true, some st1 => match evC T G orc true nt lf b { cs with st := st1 } with
          | some (.normal, cs') => yldE true (setL l .ready none cs'.st)
          | some (.ret, cs') => yldE false (setL l .done (some .ret) cs'.st)
          | some (.exit id, cs') => yldE false (setL l .done (some (.exit id)) cs'.st)
          | _ => none
        | _, _ => none
      | _ => none
    | _, _ => none
  | _ => none

/-- Calls, so deep. -/
def mkOrc (T : TT) (G : Nat) (E : List Nat) (F : Nat → Option Func) (tb : FuncId → List Value → St → Option (CR × St)) (lf : Nat) : Nat → Orc
  | 0 => { eq := E, call := fun _ _ _ => none, yld := fun _ _ _ => none }
  | m + 1 =>
    let orc := mkOrc T G E F tb lf m
    { eq := E
      call := fun f args st => match tb f args st with
        | some r => some r
        | none => callV T G F orc lf f args st
      yld := yldV T G orc lf }
end Go.EV
