/-
  A virtual semantics of the model's code (2): the operations that call nothing.
-/
import Derived.Test.YtgdpedfahfmjeaaGreatDoorVmA
namespace Go.Vm

def undefV : VV := .tuple []

def isAggV (P : Program) (t : TypeId) : Option Bool :=
  match P.underlying t with
  | some (.struct _) | some (.array _ _) => some true
  | some _ => some false
  | none => none

def sizeV (P : Program) (t : TypeId) : Option Nat :=
  match P.info? t with
  | some i => some i.size
  | none => none

def zeroV (P : Program) (t : TypeId) : Option VV :=
  match P.info? t with
  | some i => match i.zero with
    | some v => some (VV.ofValue v)
    | none => none
  | none => none

def partV (P : Program) (t : TypeId) (cs : List VV) (off : Nat) : Option VV :=
  match isAggV P t with
  | some true => match sizeV P t with
    | some n => some (.agg ((cs.drop off).take n))
    | none => none
  | some false => cs[off]?
  | none => none

/-- a row of cells, to be read from a number on -/
def loadV (S : St) (id off n : Nat) : Option (List VV) :=
  match S.h.get id with
  | some (.cells c _ _ _ _) => c.row off n
  | _ => none

def allOne : List VV → Bool
  | [] => true
  | v :: l => match v.one with
    | true => allOne l
    | false => false

/-- cells are written from a number on -/
def storeV (S : St) (id off : Nat) (vs : List VV) : Option St :=
  match vs with
  | [] => some S
  | _ => match allOne vs with
    | false => none
    | true => match S.h.get id with
      | some (.cells c n t false m) => match Nat.ble (off + vs.length) n with
        | true => (c.setAll off vs).with_ fun c => (S.h.set id (.cells c n t false m)).with_ fun h => some { S with h := h }
        | false => none
      | _ => none

def newV (S : St) (o : VObj) : Nat × St := (S.nx, { h := S.h.set S.nx o, nx := S.nx + 1 })

/-- a new row, marked or not -/
def newRowV (S : St) (cs : List VV) (n : Nat) (t : TypeId) (marked : Bool) : Option (Nat × St) :=
  match allOne cs with
  | true => (Tr.ofList cs).with_ fun c => (S.h.set S.nx (.cells c n t false marked)).with_ fun h => some (S.nx, { h := h, nx := S.nx + 1 })
  | false => none

def loadVarV (P : Program) (S : St) (t : TypeId) (id off : Nat) : Option VV :=
  match isAggV P t with
  | some true => match sizeV P t with
    | some n => match loadV S id off n with
      | some l => some (.agg l)
      | none => none
    | none => none
  | some false => match loadV S id off 1 with
    | some [v] => some v
    | _ => none
  | none => none

/- integers -/
def intOpV (op : BinOp) (k : IntKind) (a b : Int) : Option VV :=
  match op with
  | .add => some (.int k (k.wrap (a + b)))
  | .sub => some (.int k (k.wrap (a - b)))
  | .mul => some (.int k (k.wrap (a * b)))
  | .quo => if b = 0 then none else some (.int k (k.wrap (a.tdiv b)))
  | .rem => if b = 0 then none else some (.int k (a.tmod b))
  | .and => some (.int k (k.wrap (BitVec.ofInt k.bits a &&& BitVec.ofInt k.bits b).toNat))
  | .or => some (.int k (k.wrap (BitVec.ofInt k.bits a ||| BitVec.ofInt k.bits b).toNat))
  | .xor => some (.int k (k.wrap (BitVec.ofInt k.bits a ^^^ BitVec.ofInt k.bits b).toNat))
  | .andNot => some (.int k (k.wrap (BitVec.ofInt k.bits a &&& ~~~ (BitVec.ofInt k.bits b)).toNat))
  | .eql => some (.bool (a == b))
  | .neq => some (.bool (a != b))
  | .lss => some (.bool (decide (a < b)))
  | .leq => some (.bool (decide (a ≤ b)))
  | .gtr => some (.bool (decide (a > b)))
  | .geq => some (.bool (decide (a ≥ b)))
  | _ => none

def shiftV (op : BinOp) (k : IntKind) (a y : Int) : Option VV :=
  if y < 0 then none else
  match op with
  | .shl => some (.int k (k.wrap (a * 2 ^ (min y.toNat k.bits))))
  | .shr => some (.int k (a.fdiv (2 ^ (min y.toNat k.bits))))
  | _ => none

def strEq : List UInt8 → List UInt8 → Bool
  | [], [] => true
  | a :: l, b :: m => match Nat.beq a.toNat b.toNat with
    | true => strEq l m
    | false => false
  | _, _ => false

def strLess : List UInt8 → List UInt8 → Bool
  | _, [] => false
  | [], _ :: _ => true
  | a :: x, b :: y => match Nat.blt a.toNat b.toNat with
    | true => true
    | false => match Nat.beq a.toNat b.toNat with
      | true => strLess x y
      | false => false

def strOpV (op : BinOp) (x y : List UInt8) : Option VV :=
  match op with
  | .add => if x.length + y.length ≤ 9223372036854775807 then some (.str (x ++ y)) else none
  | .eql => some (.bool (strEq x y))
  | .neq => some (.bool (!strEq x y))
  | .lss => some (.bool (strLess x y))
  | .leq => some (.bool (strLess x y || strEq x y))
  | .gtr => some (.bool (!(strLess x y || strEq x y)))
  | .geq => some (.bool (!strLess x y))
  | _ => none

/-- are two rows surely not one? -/
def apartV (S : St) (i j : Nat) : Bool :=
  match S.h.get i, S.h.get j with
  | some (.cells _ (_ + 1) _ _ m), some (.cells _ (_ + 1) _ _ m') => !(m && m')
  | _, _ => false

def eqFieldsV (P : Program) (eq : TypeId → VV → VV → Option Bool) (xs ys : List VV) : List Field → Option Bool
  | [] => some true
  | f :: fs =>
    if f.name ≠ "_" then
      match partV P f.type xs f.offset, partV P f.type ys f.offset with
      | some a, some b => match eq f.type a b with
        | some true => eqFieldsV P eq xs ys fs
        | r => r
      | _, _ => none
    else eqFieldsV P eq xs ys fs

def eqElemsV (P : Program) (eq : TypeId → VV → VV → Option Bool) (e : TypeId) (z : Nat) (xs ys : List VV) : Nat → Nat → Option Bool
  | 0, _ => some true
  | n + 1, i => match partV P e xs (i * z), partV P e ys (i * z) with
    | some a, some b => match eq e a b with
      | some true => eqElemsV P eq e z xs ys n (i + 1)
      | r => r
    | _, _ => none

/-- '==' of two values of a type, by levels -/
def eqV (P : Program) (S : St) : Nat → TypeId → VV → VV → Option Bool
  | 0, _, _, _ => none
  | d + 1, t, x, y =>
    match P.underlying t with
    | some .bool => match x, y with
      | .bool a, .bool b => some (a == b)
      | _, _ => none
    | some (.int _) => match x, y with
      | .int k a, .int k' b => if k = k' then some (a == b) else none
      | _, _ => none
    | some .string => match x, y with
      | .str a, .str b => some (strEq a b)
      | _, _ => none
    | some (.pointer e) => match x, y with
      | .ptr none, .ptr b => some b.isNone
      | .ptr (some _), .ptr none => some false
      | .ptr (some (i, o)), .ptr (some (j, o')) => match sizeV P e with
        | some (_ + 1) =>
          if i = j then some (o == o') else if apartV S i j then some false else none
        | _ => none
      | _, _ => none
    | some (.slice _) => match x, y with
      | .slice none _ _, .slice b _ _ => some b.isNone
      | .slice (some _) _ _, .slice none _ _ => some false
      | _, _ => none
    | some (.map _ _) => match x, y with
      | .map none, .map b => some b.isNone
      | .map (some _), .map none => some false
      | _, _ => none
    | some (.func _ _ _) => match x, y with
      | .nilFunc, .nilFunc => some true
      | .nilFunc, .func _ _ _ => some false
      | .func _ _ _, .nilFunc => some false
      | _, _ => none
    | some (.interface _) => match x, y with
      | .nilIface, .nilIface => some true
      | .nilIface, .iface _ _ => some false
      | .iface _ _, .nilIface => some false
      | .iface tx vx, .iface ty vy =>
        if tx ≠ ty then some false else
        match P.info? tx with
        | some i => if i.comparable then eqV P S d tx vx vy else none
        | none => none
      | _, _ => none
    | some (.struct fields) => match x, y with
      | .agg xs, .agg ys => if P.stoodInHeld t then none else eqFieldsV P (eqV P S d) xs ys fields.toList
      | _, _ => none
    | some (.array n e) => match x, y with
      | .agg xs, .agg ys => match sizeV P e with
        | some z => eqElemsV P (eqV P S d) e z xs ys n 0
        | none => none
      | _, _ => none
    | _ => none

end Go.Vm
