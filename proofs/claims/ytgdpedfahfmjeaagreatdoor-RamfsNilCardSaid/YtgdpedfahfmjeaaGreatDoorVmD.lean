/-
  A virtual semantics of the model's code (4): code, calls, panics, ranges over functions; regions that draw their order.
-/
import Derived.Test.YtgdpedfahfmjeaaGreatDoorVmC
namespace Go.Vm

inductive Ex where
  | normal
  | exit (id : Nat)
  | ret
  | panic (chain : List VPan)

inductive En where
  | returned (v : VV)
  | panicked (chain : List VPan)

structure FI where
  fn : FuncId
  round : Option Nat

/-- what stands in a function's place: a value and a state, of arguments and a state -/
abbrev Ov := FuncId → Option (List VV → St → Option (VV × St))

abbrev CodeR := List (Ex × Fr × St)
abbrev CallR := List (En × Option (List VPan) × St)

structure Rec where
  code : FI → Code → Fr → St → Option CodeR
  call : FuncId → List VV → Option (List VPan) → St → Option CallR
  unw : FuncId → Option (List VPan) → Fr → St → Option CallR
  round : Nat → List VV → St → Option CallR

def bindL {α β : Type} (x : Option (List α)) (f : α → Option (List β)) : Option (List β) :=
  match x with
  | none => none
  | some l => go f l
  where
  go (f : α → Option (List β)) : List α → Option (List β)
    | [] => some []
    | a :: l => match l with
      | [] => f a
      | _ :: _ => match f a, go f l with
        | some r, some s => some (r ++ s)
        | _, _ => none

/- numbers are forced before they are laid down -/
def natS {β : Type} (n : Nat) (c : Nat → β) : β :=
  match n with
  | 0 => c 0
  | n + 1 => c (n + 1)
def intS {β : Type} (n : Int) (c : Int → β) : β :=
  match n with
  | .ofNat n => natS n fun n => c (.ofNat n)
  | .negSucc n => natS n fun n => c (.negSucc n)
def boolS {β : Type} (b : Bool) (c : Bool → β) : β :=
  match b with
  | true => c true
  | false => c false
def VV.strict {β : Type} (v : VV) (c : VV → β) : β :=
  match v with
  | .int k n => intS n fun n => c (.int k n)
  | .bool b => boolS b fun b => c (.bool b)
  | .ptr a => match a with
    | none => c (.ptr none)
    | some (r, o) => natS r fun r => natS o fun o => c (.ptr (some (r, o)))
  | .slice a n cap => natS n fun n => match a with
    | none => c (.slice none n cap)
    | some (r, o) => natS r fun r => natS o fun o => c (.slice (some (r, o)) n cap)
  | v => c v

@[simp] theorem natS_eq {β : Type} (n : Nat) (c : Nat → β) : natS n c = c n := by cases n <;> rfl
@[simp] theorem intS_eq {β : Type} (n : Int) (c : Int → β) : intS n c = c n := by cases n <;> simp [intS]
@[simp] theorem boolS_eq {β : Type} (n : Bool) (c : Bool → β) : boolS n c = c n := by cases n <;> rfl
@[simp] theorem VV.strict_eq {β : Type} (v : VV) (c : VV → β) : v.strict c = c v := by
  cases v with
  | ptr a => cases a with
    | none => rfl
    | some p => simp [VV.strict]
  | slice a n cap => cases a with
    | none => simp [VV.strict]
    | some p => simp [VV.strict]
  | _ => simp [VV.strict]

def Fr.put (fr : Fr) (dst : Option Tmp) (v : VV) : Option Fr :=
  match dst with
  | none => some fr
  | some d => match Nat.blt d fr.n with
    | true => v.strict fun v => (fr.t.set d v).with_ fun t => some { fr with t := t }
    | false => none

/-- is the operation wanted: what its guard's operation has yielded -/
def wantedV (ops : Array Oper) (o : Oper) (look : Tmp → Option VV) : Option Bool :=
  match o.guard with
  | none => some true
  | some (j, want) => match ops[j]? with
    | some g => match g.dst with
      | some d => match look d with
        | some (.bool b) => some (b == want)
        | some .any => none
        | some _ => some false
        | none => none
      | none => some false
    | none => some false

/-- a call of a function value -/
def callV (P : Program) (ov : Ov) (r : Rec) (fn : Fn) (args : List VV) (S : St) : Option CallR :=
  match fn with
  | .func f => match ov f with
    | some g => match g args S with
      | some (v, S) => some [(.returned v, none, S)]
      | none => none
    | none => r.call f args none S
  | .yield l => r.round l args S
  | _ => none

/-- a range's own function captures nothing -/
def yieldOk : Fn → List VV → Bool
  | .yield _, _ :: _ => false
  | _, _ => true

/-- what is called, with all its arguments -/
def calleeV (e : Operand → VV) (c : Call) : Option (Fn × List VV) :=
  match c.callee with
  | .value f => match e f with
    | .func fn first captured => match yieldOk fn captured with
      | true => some (fn, first ++ (c.args.toList.map e) ++ captured)
      | false => none
    | _ => none
  | _ => none

def deferV (e : Operand → VV) (c : Call) : Option VDef :=
  match c.callee with
  | .value f => match e f with
    | .func (.func g) first captured => some (.fn (.func g) captured (first ++ (c.args.toList.map e)))
    | _ => none
  | _ => none

def panicV (v : VV) : Option (List VPan) :=
  match v with
  | .iface t v => some [{ v := .iface t v, recovered := false }]
  | _ => none

/-- recover: what it answers, and the caller's panic behind it -/
def recoverV (rc : Option (List VPan)) : VV × Option (List VPan) :=
  match rc with
  | some (p :: older) => match p.recovered with
    | false => (p.v, some ({ v := p.v, recovered := true } :: older))
    | true => (.nilIface, rc)
  | rc => (.nilIface, rc)

/-- one operation, in a frame -/
def operV (P : Program) (ov : Ov) (r : Rec) (fi : FI) (o : Oper) (fr : Fr) (S : St) (k : Fr → St → Option CodeR) : Option CodeR :=
  match o.op with
  | .call c => match c.callee with
    | .builtin .recover => match fi.round with
      | some _ => none
      | none => match recoverV fr.rc with
        | (v, rc) => match ({ fr with rc := rc } : Fr).put o.dst v with
          | some fr => k fr S
          | none => none
    | .builtin _ => match simpleV P (fr.ev P.globals.size) S o.op with
      | some (v, S) => match fr.put o.dst v with
        | some fr => k fr S
        | none => none
      | none => none
    | _ => match calleeV (fr.ev P.globals.size) c with
      | none => none
      | some (fn, args) => bindL (callV P ov r fn args S) fun (e, _, S) => match e with
        | .returned v => match fr.put o.dst v with
          | some fr => k fr S
          | none => none
        | .panicked ch => some [(.panic ch, fr, S)]
  | .defer c => match fi.round, deferV (fr.ev P.globals.size) c with
    | none, some d => match ({ fr with ds := d :: fr.ds } : Fr).put o.dst undefV with
      | some fr => k fr S
      | none => none
    | _, _ => none
  | .panic x => match panicV (fr.ev P.globals.size x) with
    | some ch => some [(.panic ch, fr, S)]
    | none => none
  | .next it s => bindL (nextV S (fr.ev P.globals.size it) s) fun (v, S) => match fr.put o.dst v with
    | some fr => k fr S
    | none => none
  | op => match simpleV P (fr.ev P.globals.size) S op with
    | some (v, S) => match fr.put o.dst v with
      | some fr => k fr S
      | none => none
    | none => none

/-- the operations of a region, in the text's order -/
def opersV (P : Program) (ov : Ov) (r : Rec) (fi : FI) (ops : Array Oper) : List Oper → Fr → St → Option CodeR
  | [], fr, S => some [(.normal, fr, S)]
  | o :: l, fr, S => match wantedV ops o (fun d => fr.t.get d) with
    | some true => operV P ov r fi o fr S fun fr S => opersV P ov r fi ops l fr S
    | some false => match fr.put o.dst undefV with
      | some fr => opersV P ov r fi ops l fr S
      | none => none
    | none => none

/- regions that draw their order -/
/-- 0: touches no memory; 1: reads; 2: all else -/
def kindV : Op → Nat
  | .move _ | .assign _ | .pick .. | .build .. | .nilCheck _ | .unOp .. | .makeInterface .. | .makeFunc .. | .slice .. | .fieldAddr .. | .field .. | .indexAddr .. | .index ..
  | .extract .. | .typeAssert .. => 0
  | .binOp .. | .load .. | .lookup .. => 1
  | .call c => match c.callee with
    | .builtin .len => 1
    | .builtin .cap | .builtin .min | .builtin .max => 0
    | _ => 2
  | .convert .. => 3
  | _ => 2

/-- a conversion reads, if it is none to bytes -/
def kindOf (P : Program) (op : Op) : Nat :=
  match op with
  | .convert _ dst _ => match P.underlying dst with
    | some (.slice _) => 2
    | some _ => 1
    | none => 2
  | op => kindV op

def befB (b : Array Nat) (j i : Nat) : Bool := (b.getD i 0).testBit j

/-- who writes a slot, of these -/
def writerOf (ops : List Oper) (t : Tmp) : Nat → Option Nat :=
  go ops t
  where
  go : List Oper → Tmp → Nat → Option Nat
    | [], _, _ => none
    | o :: l, t, i => match o.dst with
      | some d => match Nat.beq d t with
        | true => some i
        | false => go l t (i + 1)
      | none => go l t (i + 1)

/-- the slots that an operation looks at -/
def looksV (ops : Array Oper) (o : Oper) : List Tmp :=
  (o.op.operands.toList.filterMap fun | .tmp t => some t | _ => none) ++
  (match o.guard with
   | some (g, _) => match ops[g]? with
     | some x => x.dst.toList
     | none => []
   | none => [])

def drawOk (P : Program) (ops : Array Oper) : Bool :=
  let b := Region.before ops
  let l := ops.toList.zipIdx
  -- each edge leads back; each slot has one writer; a slot's readers and its writer are in order; writers of memory are in order; guards are ahead
  l.all fun (o, i) =>
    (o.after.all fun e => !Region.binds .any e || Nat.blt e.on i) &&
    (match o.dst with
     | some d => l.all fun (p, j) => i == j || p.dst != some d
     | none => true) &&
    ((looksV ops o).all fun t => match writerOf ops.toList t 0 with
      | some j => j == i || befB b j i || befB b i j
      | none => true) &&
    (kindOf P o.op != 2 || l.all fun (p, j) => i == j || kindOf P p.op != 2 || befB b j i || befB b i j) &&
    (match o.guard with
     | some (g, _) => befB b g i
     | none => true)

/-- the slots as an operation sees them -/
def drawLook (ops : Array Oper) (b : Array Nat) (fr : Fr) (vals : Tr VV) (i : Nat) (t : Tmp) : Option VV :=
  match writerOf ops.toList t 0 with
  | some j => match befB b j i with
    | true => vals.get j
    | false => fr.t.get t
  | none => fr.t.get t

def drawEv (G : Nat) (ops : Array Oper) (b : Array Nat) (fr : Fr) (vals : Tr VV) (i : Nat) : Operand → VV := evO G fun t => drawLook ops b fr vals i t

/-- those that are behind nothing but what is listed and behind no writer of memory that is not: ahead of all else -/
def canonGo (P : Program) (ops : Array Oper) (b : Array Nat) : Nat → List Nat → List Nat → List Nat
  | 0, _, acc => acc.reverse
  | n + 1, todo, acc =>
    match todo.find? (fun i => (match ops[i]? with | some o => kindOf P o.op != 2 | none => true) && todo.all fun j => !befB b j i) with
    | some i => canonGo P ops b n (todo.filter (· != i)) (i :: acc)
    | none => match todo with
      | i :: rest => canonGo P ops b n rest (i :: acc)
      | [] => acc.reverse

def canonV (P : Program) (ops : Array Oper) : List Nat := canonGo P ops (Region.before ops) ops.size (List.range ops.size) []

/-- equal values, surely -/
def VV.same : VV → VV → Bool
  | .bool a, .bool b => a == b
  | .int k a, .int k' b => decide (k = k') && a == b
  | .str a, .str b => strEq a b
  | .ptr none, .ptr none => true
  | .ptr (some (a, b)), .ptr (some (c, d)) => Nat.beq a c && Nat.beq b d
  | .slice a n c, .slice a' n' c' => decide (a = a') && Nat.beq n n' && decide (c = c')
  | .map a, .map b => decide (a = b)
  | .nilFunc, .nilFunc => true
  | .nilIface, .nilIface => true
  | .agg a, .agg b => sameL a b
  | .tuple a, .tuple b => sameL a b
  | .func f [] c, .func g [] d => decide (f = g) && sameL c d
  | _, _ => false
  where
  sameL : List VV → List VV → Bool
    | [], [] => true
    | a :: l, b :: m => VV.same a b && sameL l m
    | _, _ => false

/-- does a reading operation come to the same in a state? -/
def stableV (P : Program) (e : Operand → VV) (op : Op) (v : VV) (S : St) : Bool :=
  match simpleV P e S op with
  | some (u, _) => VV.same u v
  | none => false

def freeV (b : Array Nat) (i j : Nat) : Bool := !befB b i j && !befB b j i

structure DrawSt where
  vals : Tr VV
  S : St
  /-- each writer of memory that is done, with the states before and behind it, the last one first -/
  done : List (Nat × St × St)
  reads : List (Nat × VV)

/-- the reading operations that are free of one hold in the state behind it -/
def readsHold (P : Program) (ops : Array Oper) (b : Array Nat) (fr : Fr) (vals : Tr VV) (i : Nat) (S : St) : List (Nat × VV) → Bool
  | [] => true
  | (q, v) :: l => (match freeV b q i with
    | true => match ops[q]? with
      | some o => stableV P (drawEv P.globals.size ops b fr vals q) o.op v S
      | none => false
    | false => true) && readsHold P ops b fr vals i S l

/-- a reading operation holds ahead of and behind those writers that are free of it -/
def holdsAt (P : Program) (e : Operand → VV) (op : Op) (v : VV) (b : Array Nat) (i : Nat) : List (Nat × St × St) → Bool
  | [] => true
  | (j, s, s') :: l => (match freeV b j i with
    | true => stableV P e op v s && stableV P e op v s'
    | false => true) && holdsAt P e op v b i l

/-- the slots behind a region -/
def drawEnd (ops : List Oper) (vals : Tr VV) (t : Tr VV) (i : Nat) : Tr VV :=
  match ops with
  | [] => t
  | o :: l => match o.dst, vals.get i with
    | some d, some v => (t.set d v).with_ fun t => drawEnd l vals t (i + 1)
    | some d, none => (t.set d .any).with_ fun t => drawEnd l vals t (i + 1)
    | none, _ => drawEnd l vals t (i + 1)

/-- the slots behind a region that a panic left -/
def drawLost (ops : List Oper) (t : Tr VV) : Tr VV :=
  match ops with
  | [] => t
  | o :: l => match o.dst with
    | some d => (t.set d .any).with_ fun t => drawLost l t
    | none => drawLost l t

/-- one operation that writes memory, or calls: its value and the state behind it, or a panic -/
def effectV (P : Program) (ov : Ov) (r : Rec) (e : Operand → VV) (op : Op) (S : St) : Option (En × St) :=
  match op with
  | .call c => match c.callee with
    | .builtin .recover => none
    | .builtin _ => match simpleV P e S op with
      | some (v, S) => some (.returned v, S)
      | none => none
    | _ => match calleeV e c with
      | none => none
      | some (fn, args) => match callV P ov r fn args S with
        | some [(x, _, S)] => some (x, S)
        | _ => none
  | .defer _ => none
  | .panic _ => none
  | .next _ _ => none
  | op => match simpleV P e S op with
    | some (v, S) => some (.returned v, S)
    | none => none

def fits (ops : List Oper) (n : Nat) : Bool := ops.all fun o => match o.dst with | some d => Nat.blt d n | none => true

def drawGo (P : Program) (ov : Ov) (r : Rec) (ops : Array Oper) (b : Array Nat) (fr : Fr) : List Nat → DrawSt → Option CodeR
  | [], s => some [(.normal, { fr with t := drawEnd ops.toList s.vals fr.t 0 }, s.S)]
  | i :: l, s => match ops[i]? with
    | none => none
    | some o => match wantedV ops o (fun d => drawLook ops b fr s.vals i d) with
      | none => none
      | some false => drawGo P ov r ops b fr l { s with vals := s.vals.set i undefV }
      | some true => match kindOf P o.op with
        | 2 => match effectV P ov r (drawEv P.globals.size ops b fr s.vals i) o.op s.S with
          | some (.returned v, S') => match readsHold P ops b fr s.vals i S' s.reads with
            | true => drawGo P ov r ops b fr l { vals := s.vals.set i v, S := S', done := (i, s.S, S') :: s.done, reads := s.reads }
            | false => none
          | some (.panicked ch, S') => match l.all (befB b i) with
            | true => some [(.panic ch, { fr with t := drawLost ops.toList fr.t }, S')]
            | false => none
          | none => none
        | _ => match simpleV P (drawEv P.globals.size ops b fr s.vals i) s.S o.op with
          | some (v, _) => match holdsAt P (drawEv P.globals.size ops b fr s.vals i) o.op v b i s.done with
            | true => drawGo P ov r ops b fr l { s with vals := s.vals.set i v, reads := (i, v) :: s.reads }
            | false => none
          | none => none

def drawV (P : Program) (ov : Ov) (r : Rec) (ops : Array Oper) (fr : Fr) (S : St) : Option CodeR :=
  match drawOk P ops && fits ops.toList fr.n with
  | true => drawGo P ov r ops (Region.before ops) fr (canonV P ops) { vals := .nil, S := S, done := [], reads := [] }
  | false => none

/- frames -/
def resultsV (P : Program) (t : Tr VV) (S : St) : List ResultVar → Option (List VV)
  | [] => some []
  | x :: l => match (match x with
      | .tmp d => t.get d
      | .cell a ty => match t.get a with
        | some (.ptr (some (id, off))) => loadVarV P S ty id off
        | _ => none), resultsV P t S l with
    | some v, some r => some (v :: r)
    | _, _ => none

def oneOf : List VV → VV
  | [v] => v
  | l => .tuple l

def takeV (S : St) (r : Nat) : Option (List VDef × St) :=
  match S.h.get r with
  | some (.deferred (some ds)) => (S.h.set r (.deferred none)).with_ fun h => some (ds, { S with h := h })
  | _ => none

/-- behind a deferred call that has returned: is the panic over? -/
def stillV (rc : Option (List VPan)) : Option (List VPan) :=
  match rc with
  | some (p :: l) => match p.recovered with
    | true => none
    | false => some (p :: l)
  | rc => rc

def raiseV (rc : Option (List VPan)) (vs : List VPan) : List VPan :=
  match rc with
  | some ch => vs ++ ch
  | none => vs

def unwV (P : Program) (r : Rec) (f : FuncId) (mode : Option (List VPan)) (fr : Fr) (S : St) : Option CallR :=
  match fr.ds with
  | [] => match mode with
    | some ch => some [(.panicked ch, fr.rc, S)]
    | none => match P.funcs[f]? with
      | some fn => match resultsV P fr.t S fn.results.toList with
        | some vs => some [(.returned (oneOf vs), fr.rc, S)]
        | none => none
      | none => none
  | d :: ds => match d with
    | .collected b => match takeV S b with
      | some (calls, S) => r.unw f mode { fr with ds := calls ++ ds } S
      | none => none
    | .fn (.func g) cap args => bindL (r.call g (args ++ cap) mode S) fun (e, rc, S) => match e with
      | .returned _ => r.unw f (stillV rc) { fr with ds := ds } S
      | .panicked vs => r.unw f (some (raiseV rc vs)) { fr with ds := ds } S
    | _ => none

/-- the frame of a call -/
def frameV (fn : Func) (args : List VV) (rc : Option (List VPan)) : Fr :=
  { t := Tr.setAll .nil 0 args, n := Nat.max fn.ntmps args.length, ds := [], rc := rc }

def callFuncV (P : Program) (r : Rec) (f : FuncId) (args : List VV) (rc : Option (List VPan)) (S : St) : Option CallR :=
  match P.funcs[f]? with
  | none => none
  | some fn => match fn.body with
    | none => none
    | some c => bindL (r.code { fn := f, round := none } c (frameV fn args rc) S) fun (x, fr, S) => match x with
      | .normal => r.unw f none fr S
      | .ret => r.unw f none fr S
      | .panic ch => r.unw f (some ch) fr S
      | .exit _ => none

def setParams (t : Tr VV) : List Tmp → List VV → Tr VV
  | d :: ds, v :: vs => (t.set d v).with_ fun t => setParams t ds vs
  | _, _ => t

def loopAt (S : St) (l : Nat) : Option VLoop :=
  match S.h.get l with
  | some (.loop lo) => some lo
  | _ => none

def putLoop (S : St) (l : Nat) (lo : VLoop) : St := { S with h := S.h.set l (.loop lo) }

def roundV (P : Program) (r : Rec) (l : Nat) (args : List VV) (S : St) : Option CallR :=
  match loopAt S l with
  | none => none
  | some lo =>
    if args.length = lo.params.length ∧ lo.params.all (fun d => Nat.blt d lo.n) then
      bindL (r.code { fn := lo.fn, round := some l } lo.assign { t := setParams lo.t lo.params args, n := lo.n, ds := [], rc := none } S) fun (x, fr, S) => match x with
        | .normal => match loopAt S l with
          | some lo' => match lo'.state with
            | .ready => bindL (r.code { fn := lo.fn, round := some l } lo.body fr (putLoop S l { lo' with state := .busy })) fun (x, fr, S) => match loopAt S l, fr.ds with
              | some lo', [] => match x with
                | .normal => some [(.returned (.bool true), none, putLoop S l { lo' with state := .ready, pending := none })]
                | .ret => some [(.returned (.bool false), none, putLoop S l { lo' with state := .done, pending := some .ret })]
                | .exit id => some [(.returned (.bool false), none, putLoop S l { lo' with state := .done, pending := some (.exit id) })]
                | .panic ch => match P.funcs[lo.fn]? with
                  | some _ => some [(.panicked ch, none, S)]
                  | none => none
              | _, _ => none
            | _ => none
          | none => none
        | _ => none
    else none

def rangeFuncV (P : Program) (ov : Ov) (r : Rec) (fi : FI) (f : Operand) (ps : List Tmp) (a b : Code) (fr : Fr) (S : St) : Option CodeR :=
  match (match fi.round with
    | none => some (S.nx, [VDef.collected S.nx], ({ h := S.h.set S.nx (.deferred (some [])), nx := S.nx + 1 } : St))
    | some l => match loopAt S l with
      | some lo => some (lo.defers, [], S)
      | none => none) with
  | none => none
  | some (ds, mark, S) =>
    let l := S.nx
    let S : St := { h := S.h.set l (.loop { state := .ready, pending := none, fn := fi.fn, t := fr.t, n := fr.n, params := ps, assign := a, body := b, defers := ds }), nx := l + 1 }
    let fr : Fr := { fr with ds := mark ++ fr.ds }
    match fr.ev P.globals.size f with
    | .func fn first captured => match yieldOk fn captured with
     | false => none
     | true => bindL (callV P ov r fn (first ++ [.func (.yield l) [] []] ++ captured) S) fun (e, _, S) => match e with
      | .returned _ => match loopAt S l with
        | some lo => match lo.state with
          | .busy => none
          | _ => match lo.pending with
            | none => some [(.normal, fr, putLoop S l { lo with state := .exhausted })]
            | some .ret => some [(.ret, fr, putLoop S l { lo with state := .exhausted })]
            | some (.exit id) => some [(.exit id, fr, putLoop S l { lo with state := .exhausted })]
            | some _ => none
        | none => none
      | .panicked ch => some [(.panic ch, fr, S)]
    | _ => none

def codeV (P : Program) (ov : Ov) (r : Rec) (fi : FI) (c : Code) (fr : Fr) (S : St) : Option CodeR :=
  match c with
  | .skip => some [(.normal, fr, S)]
  | .label _ => some [(.normal, fr, S)]
  | .region _ ops draw => match draw with
    | true => drawV P ov r ops fr S
    | false => opersV P ov r fi ops ops.toList fr S
  | .seq a b => bindL (r.code fi a fr S) fun (x, fr, S) => match x with
    | .normal => r.code fi b fr S
    | x => some [(x, fr, S)]
  | .cond c t e => match fr.ev P.globals.size c with
    | .bool true => r.code fi t fr S
    | .bool false => r.code fi e fr S
    | _ => none
  | .block id b => bindL (r.code fi b fr S) fun (x, fr, S) => match x with
    | .exit i => match Nat.beq i id with
      | true => some [(.normal, fr, S)]
      | false => some [(.exit i, fr, S)]
    | x => some [(x, fr, S)]
  | .loop b => bindL (r.code fi b fr S) fun (x, fr, S) => match x with
    | .normal => r.code fi (.loop b) fr S
    | x => some [(x, fr, S)]
  | .exit id => some [(.exit id, fr, S)]
  | .ret => some [(.ret, fr, S)]
  | .rangeFunc f ps a b => rangeFuncV P ov r fi f ps.toList a b fr S
  | _ => none

def recNone : Rec := { code := fun _ _ _ _ => none, call := fun _ _ _ _ => none, unw := fun _ _ _ _ => none, round := fun _ _ _ => none }

def stepV (P : Program) (ov : Ov) (r : Rec) : Rec :=
  { code := codeV P ov r, call := callFuncV P r, unw := unwV P r, round := roundV P r }

/-- so many levels -/
def ev (P : Program) (ov : Ov) (n : Nat) : Rec := Nat.rec recNone (fun _ r => stepV P ov r) n

@[simp] theorem ev_zero (P : Program) (ov : Ov) : ev P ov 0 = recNone := rfl
theorem ev_succ (P : Program) (ov : Ov) (n : Nat) : ev P ov (n + 1) = stepV P ov (ev P ov n) := rfl

end Go.Vm
