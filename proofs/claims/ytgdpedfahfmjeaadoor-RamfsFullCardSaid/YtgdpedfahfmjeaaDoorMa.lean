/-
  What is proved here: the virtual semantics (values, operations, control, relations). No condition.
-/
import GoSem.Step
import Derived.Laws.Sem
import Derived.Laws.World
import Derived.Calls

/-
  A virtual semantics of the model's code (1): a map from numbers, values, objects, the state. Nothing of any one program.
-/
namespace Go.Vm

/- a map from numbers: a tree by the number's bits -/
inductive Tr (α : Type) where
  | nil
  | node (v : Option α) (l r : Tr α)

namespace Tr
variable {α β : Type}

def get : Tr α → Nat → Option α
  | .nil, _ => none
  | .node v l r, k =>
    match k with
    | 0 => v
    | k + 1 => match k % 2 with
      | 0 => get l (k / 2)
      | _ => get r (k / 2)

/-- the result is forced, then handed on -/
def with_ (t : Tr α) (c : Tr α → β) : β :=
  match t with
  | .nil => c .nil
  | .node v l r => c (.node v l r)

@[simp] theorem with_eq (t : Tr α) (c : Tr α → β) : t.with_ c = c t := by cases t <;> rfl

def putF (a : Option α) : Nat → Tr α → Nat → Tr α
  | 0, t, _ => t
  | n + 1, t, k =>
    match t with
    | .nil => match k with
      | 0 => .node a .nil .nil
      | k + 1 => match k % 2 with
        | 0 => (putF a n .nil (k / 2)).with_ fun l => .node none l .nil
        | _ => (putF a n .nil (k / 2)).with_ fun r => .node none .nil r
    | .node v l r => match k with
      | 0 => .node a l r
      | k + 1 => match k % 2 with
        | 0 => (putF a n l (k / 2)).with_ fun l => .node v l r
        | _ => (putF a n r (k / 2)).with_ fun r => .node v l r

def put (t : Tr α) (k : Nat) (a : Option α) : Tr α := putF a (k + 1) t k
def set (t : Tr α) (k : Nat) (a : α) : Tr α := t.put k (some a)
def del (t : Tr α) (k : Nat) : Tr α := t.put k none

@[simp] theorem get_nil (k : Nat) : (Tr.nil : Tr α).get k = none := rfl

theorem get_node_zero (v : Option α) (l r : Tr α) : (Tr.node v l r).get 0 = v := rfl
theorem get_node_succ (v : Option α) (l r : Tr α) (k : Nat) : (Tr.node v l r).get (k + 1) = if k % 2 = 0 then l.get (k / 2) else r.get (k / 2) := by
  simp only [get]
  rcases Nat.mod_two_eq_zero_or_one k with h | h <;> simp [h]

theorem get_putF (a : Option α) : ∀ (n : Nat) (t : Tr α) (k : Nat), k < n → ∀ j, (putF a n t k).get j = if j = k then a else t.get j := by
  intro n
  induction n with
  | zero => intro t k h; omega
  | succ n ih =>
    intro t k h j
    cases t with
    | nil =>
      cases k with
      | zero =>
        simp only [putF]
        cases j with
        | zero => simp [get_node_zero]
        | succ j => simp [get_node_succ]
      | succ k =>
        have hk : k / 2 < n := by omega
        simp only [putF]
        rcases Nat.mod_two_eq_zero_or_one k with hm | hm <;> simp only [hm, with_eq] <;> cases j with
        | zero => simp [get_node_zero]
        | succ j =>
          rw [get_node_succ]
          simp only [get_nil]
          rcases Nat.mod_two_eq_zero_or_one j with hj | hj <;> simp only [hj, if_true, if_false, Nat.one_ne_zero, ih .nil (k / 2) hk, get_nil] <;>
            first
              | (have : (j / 2 = k / 2) ↔ (j = k) := by omega
                 simp [this]; done)
              | (have : ¬ (j = k) := by omega
                 simp [this]; done)
    | node v l r =>
      cases k with
      | zero =>
        simp only [putF]
        cases j with
        | zero => simp [get_node_zero]
        | succ j => simp [get_node_succ]
      | succ k =>
        have hk : k / 2 < n := by omega
        simp only [putF]
        rcases Nat.mod_two_eq_zero_or_one k with hm | hm <;> simp only [hm, with_eq] <;> cases j with
        | zero => simp [get_node_zero]
        | succ j =>
          rw [get_node_succ, get_node_succ]
          rcases Nat.mod_two_eq_zero_or_one j with hj | hj <;> simp only [hj, if_true, if_false, Nat.one_ne_zero, ih l (k / 2) hk, ih r (k / 2) hk] <;>
            first
              | (have : (j / 2 = k / 2) ↔ (j = k) := by omega
                 simp [this]; done)
              | (have : ¬ (j = k) := by omega
                 simp [this]; done)

theorem get_put (t : Tr α) (k j : Nat) (a : Option α) : (t.put k a).get j = if j = k then a else t.get j := get_putF a (k + 1) t k (Nat.lt_succ_self k) j
@[simp] theorem get_put_same (t : Tr α) (k : Nat) (a : Option α) : (t.put k a).get k = a := by simp [get_put]
theorem get_put_ne (t : Tr α) {k j : Nat} (a : Option α) (h : j ≠ k) : (t.put k a).get j = t.get j := by simp [get_put, h]
theorem get_set (t : Tr α) (k j : Nat) (a : α) : (t.set k a).get j = if j = k then some a else t.get j := get_put t k j (some a)
@[simp] theorem get_set_same (t : Tr α) (k : Nat) (a : α) : (t.set k a).get k = some a := by simp [get_set]
theorem get_set_ne (t : Tr α) {k j : Nat} (a : α) (h : j ≠ k) : (t.set k a).get j = t.get j := by simp [get_set, h]
theorem get_del (t : Tr α) (k j : Nat) : (t.del k).get j = if j = k then none else t.get j := get_put t k j none

/-- a list's elements from a number on -/
def setAll (t : Tr α) (i : Nat) : List α → Tr α
  | [] => t
  | a :: l => (t.set i a).with_ fun t => setAll t (i + 1) l

theorem get_setAll : ∀ (l : List α) (t : Tr α) (i j : Nat), (t.setAll i l).get j = if i ≤ j ∧ j < i + l.length then l[j - i]? else t.get j := by
  intro l
  induction l with
  | nil => intro t i j; simp only [setAll, List.length_nil]; rw [if_neg (by omega)]
  | cons a l ih =>
    intro t i j
    simp only [setAll, with_eq, ih, get_set, List.length_cons]
    by_cases h : j = i
    · subst h
      rw [if_neg (by omega), if_pos rfl, if_pos (by omega)]
      simp
    · rw [if_neg h]
      by_cases h2 : i + 1 ≤ j ∧ j < i + 1 + l.length
      · rw [if_pos h2, if_pos (by omega), show j - i = (j - (i + 1)) + 1 by omega]
        simp
      · rw [if_neg h2, if_neg (by omega)]

def ofList (l : List α) : Tr α := setAll .nil 0 l
theorem get_ofList (l : List α) (j : Nat) : (ofList l).get j = l[j]? := by
  simp only [ofList, get_setAll, get_nil]
  by_cases h : j < l.length
  · rw [if_pos (by omega)]; simp
  · rw [if_neg (by omega)]; simp [List.getElem?_eq_none (Nat.le_of_not_lt h)]

/-- n elements from a number on -/
def row (t : Tr α) : Nat → Nat → Option (List α)
  | _, 0 => some []
  | i, n + 1 => match t.get i with
    | none => none
    | some a => match row t (i + 1) n with
      | none => none
      | some l => some (a :: l)

theorem row_spec (t : Tr α) : ∀ (n i : Nat) (l : List α), t.row i n = some l ↔ l.length = n ∧ ∀ j, j < n → t.get (i + j) = l[j]? := by
  intro n
  induction n with
  | zero =>
    intro i l
    simp only [row]
    constructor
    · intro h; cases h; exact ⟨rfl, fun j hj => absurd hj (Nat.not_lt_zero j)⟩
    · rintro ⟨h, _⟩; rw [List.length_eq_zero_iff.1 h]
  | succ n ih =>
    intro i l
    simp only [row]
    constructor
    · intro h
      cases ha : t.get i with
      | none => simp [ha] at h
      | some a =>
        simp only [ha] at h
        cases hr : t.row (i + 1) n with
        | none => simp [hr] at h
        | some r =>
          simp only [hr, Option.some.injEq] at h
          subst h
          obtain ⟨h1, h2⟩ := (ih (i + 1) r).1 hr
          refine ⟨by simp [h1], fun j hj => ?_⟩
          cases j with
          | zero => simpa using ha
          | succ j => rw [show i + (j + 1) = i + 1 + j by omega, h2 j (by omega)]; simp
    · rintro ⟨h1, h2⟩
      cases l with
      | nil => simp at h1
      | cons a l =>
        have h0 := h2 0 (by omega)
        simp at h0
        have hr : t.row (i + 1) n = some l := (ih (i + 1) l).2 ⟨by simpa using h1, fun j hj => by
          have := h2 (j + 1) (by omega)
          rw [show i + (j + 1) = i + 1 + j by omega] at this
          simpa using this⟩
        simp [h0, hr]

end Tr

/- values: as the model's, but with addresses of our own, strings as lists, and a slice's capacity known or not -/
inductive Cap where
  /-- just so many -/
  | just (n : Nat)
  /-- to the end of the row, of which no more is known: elements of so many cells -/
  | rest (size : Nat)

instance : DecidableEq Cap := fun a b => match a, b with
  | .just m, .just n => if h : m = n then .isTrue (by rw [h]) else .isFalse (fun e => h (by cases e; rfl))
  | .rest m, .rest n => if h : m = n then .isTrue (by rw [h]) else .isFalse (fun e => h (by cases e; rfl))
  | .just _, .rest _ => .isFalse (fun e => by cases e)
  | .rest _, .just _ => .isFalse (fun e => by cases e)

inductive VV where
  /-- whatever -/
  | any
  | bool (b : Bool)
  | int (k : IntKind) (n : Int)
  | str (s : List UInt8)
  | ptr (a : Option (Nat × Nat))
  | slice (a : Option (Nat × Nat)) (len : Nat) (cap : Cap)
  | map (r : Option Nat)
  | func (fn : Fn) (first captured : List VV)
  | nilFunc
  | iface (t : TypeId) (v : VV)
  | nilIface
  | agg (cs : List VV)
  | tuple (vs : List VV)

mutual
/-- a constant of the code -/
def VV.ofValue : Value → VV
  | .bool b => .bool b
  | .int k n => .int k n
  | .string s => .str s.data.toList
  | .pointer none => .ptr none
  | .slice none n c => .slice none n (.just c)
  | .map none => .map none
  | .nilFunc => .nilFunc
  | .nilIface => .nilIface
  | .agg ⟨cs⟩ => .agg (VV.ofValues cs)
  | .tuple ⟨cs⟩ => .tuple (VV.ofValues cs)
  | _ => .any
def VV.ofValues : List Value → List VV
  | [] => []
  | v :: l => VV.ofValue v :: VV.ofValues l
end

def VV.cells : VV → List VV
  | .agg cs => cs
  | v => [v]

/-- may it lie in one cell? -/
def VV.one : VV → Bool
  | .agg _ | .tuple _ | .any => false
  | _ => true

/-- a deferred call: of a function value, or of those that a range over a function gathered -/
inductive VDef where
  | fn (fn : Fn) (captured args : List VV)
  | nil (args : List VV)
  | collected (r : Nat)

structure VLoop where
  state : LoopState
  pending : Option Code
  fn : FuncId
  t : Tr VV
  n : Nat
  params : List Tmp
  assign : Code
  body : Code
  defers : Nat

inductive VObj where
  /-- a row of n cells; may it be written? may it be marked as a string's bytes, behind its end? -/
  | cells (c : Tr VV) (n : Nat) (t : TypeId) (ro marked : Bool)
  | map (es : List (VV × VV × Nat)) (clock : Nat)
  | strIter (s : List UInt8) (pos : Nat)
  | mapIter (m : Option Nat) (since : Nat) (seen : List Nat) (stepped : Nat)
  | loop (l : VLoop)
  | deferred (calls : Option (List VDef))

structure St where
  h : Tr VObj
  nx : Nat

structure VPan where
  v : VV
  recovered : Bool

structure Fr where
  t : Tr VV
  n : Nat
  ds : List VDef
  /-- the caller's panic, if a recover here would meet one -/
  rc : Option (List VPan)

/-- what an operand is, a slot being looked up so; there are G variables -/
def evO (G : Nat) (look : Tmp → Option VV) : Operand → VV
  | .tmp t => match look t with
    | some v => v
    | none => .any
  | .const v => VV.ofValue v
  | .global g => match Nat.blt g G with
    | true => .ptr (some (g, 0))
    | false => .any
  | .func f => .func (.func f) [] []

def Fr.ev (fr : Fr) (G : Nat) : Operand → VV := evO G fun t => fr.t.get t

end Go.Vm

/-
  A virtual semantics of the model's code (2): the operations that call nothing.
-/
namespace Go.Vm

def undefV : VV := .tuple []

def isAggV (P : Program) (t : TypeId) : Option Bool :=
  match P.underlying t with
  | some (.struct _) | some (.array _ _) => some true
  | some _ => some false
  | none => none

def sizeV (P : Program) (t : TypeId) : Option Nat :=
  match P.info? t with
  | some i => some i.size
  | none => none

def zeroV (P : Program) (t : TypeId) : Option VV :=
  match P.info? t with
  | some i => match i.zero with
    | some v => some (VV.ofValue v)
    | none => none
  | none => none

def partV (P : Program) (t : TypeId) (cs : List VV) (off : Nat) : Option VV :=
  match isAggV P t with
  | some true => match sizeV P t with
    | some n => some (.agg ((cs.drop off).take n))
    | none => none
  | some false => cs[off]?
  | none => none

/-- a row of cells, to be read from a number on -/
def loadV (S : St) (id off n : Nat) : Option (List VV) :=
  match S.h.get id with
  | some (.cells c _ _ _ _) => c.row off n
  | _ => none

def allOne : List VV → Bool
  | [] => true
  | v :: l => match v.one with
    | true => allOne l
    | false => false

/-- cells are written from a number on -/
def storeV (S : St) (id off : Nat) (vs : List VV) : Option St :=
  match vs with
  | [] => some S
  | _ => match allOne vs with
    | false => none
    | true => match S.h.get id with
      | some (.cells c n t false m) => match Nat.ble (off + vs.length) n with
        | true => (c.setAll off vs).with_ fun c => (S.h.set id (.cells c n t false m)).with_ fun h => some { S with h := h }
        | false => none
      | _ => none

def newV (S : St) (o : VObj) : Nat × St := (S.nx, { h := S.h.set S.nx o, nx := S.nx + 1 })

/-- a new row, marked or not -/
def newRowV (S : St) (cs : List VV) (n : Nat) (t : TypeId) (marked : Bool) : Option (Nat × St) :=
  match allOne cs with
  | true => (Tr.ofList cs).with_ fun c => (S.h.set S.nx (.cells c n t false marked)).with_ fun h => some (S.nx, { h := h, nx := S.nx + 1 })
  | false => none

def loadVarV (P : Program) (S : St) (t : TypeId) (id off : Nat) : Option VV :=
  match isAggV P t with
  | some true => match sizeV P t with
    | some n => match loadV S id off n with
      | some l => some (.agg l)
      | none => none
    | none => none
  | some false => match loadV S id off 1 with
    | some [v] => some v
    | _ => none
  | none => none

/- integers -/
def intOpV (op : BinOp) (k : IntKind) (a b : Int) : Option VV :=
  match op with
  | .add => some (.int k (k.wrap (a + b)))
  | .sub => some (.int k (k.wrap (a - b)))
  | .mul => some (.int k (k.wrap (a * b)))
  | .quo => if b = 0 then none else some (.int k (k.wrap (a.tdiv b)))
  | .rem => if b = 0 then none else some (.int k (a.tmod b))
  | .and => some (.int k (k.wrap (BitVec.ofInt k.bits a &&& BitVec.ofInt k.bits b).toNat))
  | .or => some (.int k (k.wrap (BitVec.ofInt k.bits a ||| BitVec.ofInt k.bits b).toNat))
  | .xor => some (.int k (k.wrap (BitVec.ofInt k.bits a ^^^ BitVec.ofInt k.bits b).toNat))
  | .andNot => some (.int k (k.wrap (BitVec.ofInt k.bits a &&& ~~~ (BitVec.ofInt k.bits b)).toNat))
  | .eql => some (.bool (a == b))
  | .neq => some (.bool (a != b))
  | .lss => some (.bool (decide (a < b)))
  | .leq => some (.bool (decide (a ≤ b)))
  | .gtr => some (.bool (decide (a > b)))
  | .geq => some (.bool (decide (a ≥ b)))
  | _ => none

def shiftV (op : BinOp) (k : IntKind) (a y : Int) : Option VV :=
  if y < 0 then none else
  match op with
  | .shl => some (.int k (k.wrap (a * 2 ^ (min y.toNat k.bits))))
  | .shr => some (.int k (a.fdiv (2 ^ (min y.toNat k.bits))))
  | _ => none

def strEq : List UInt8 → List UInt8 → Bool
  | [], [] => true
  | a :: l, b :: m => match Nat.beq a.toNat b.toNat with
    | true => strEq l m
    | false => false
  | _, _ => false

def strLess : List UInt8 → List UInt8 → Bool
  | _, [] => false
  | [], _ :: _ => true
  | a :: x, b :: y => match Nat.blt a.toNat b.toNat with
    | true => true
    | false => match Nat.beq a.toNat b.toNat with
      | true => strLess x y
      | false => false

def strOpV (op : BinOp) (x y : List UInt8) : Option VV :=
  match op with
  | .add => if x.length + y.length ≤ 9223372036854775807 then some (.str (x ++ y)) else none
  | .eql => some (.bool (strEq x y))
  | .neq => some (.bool (!strEq x y))
  | .lss => some (.bool (strLess x y))
  | .leq => some (.bool (strLess x y || strEq x y))
  | .gtr => some (.bool (!(strLess x y || strEq x y)))
  | .geq => some (.bool (!strLess x y))
  | _ => none

/-- are two rows surely not one? -/
def apartV (S : St) (i j : Nat) : Bool :=
  match S.h.get i, S.h.get j with
  | some (.cells _ (_ + 1) _ _ m), some (.cells _ (_ + 1) _ _ m') => !(m && m')
  | _, _ => false

def eqFieldsV (P : Program) (eq : TypeId → VV → VV → Option Bool) (xs ys : List VV) : List Field → Option Bool
  | [] => some true
  | f :: fs =>
    if f.name ≠ "_" then
      match partV P f.type xs f.offset, partV P f.type ys f.offset with
      | some a, some b => match eq f.type a b with
        | some true => eqFieldsV P eq xs ys fs
        | r => r
      | _, _ => none
    else eqFieldsV P eq xs ys fs

def eqElemsV (P : Program) (eq : TypeId → VV → VV → Option Bool) (e : TypeId) (z : Nat) (xs ys : List VV) : Nat → Nat → Option Bool
  | 0, _ => some true
  | n + 1, i => match partV P e xs (i * z), partV P e ys (i * z) with
    | some a, some b => match eq e a b with
      | some true => eqElemsV P eq e z xs ys n (i + 1)
      | r => r
    | _, _ => none

/-- '==' of two values of a type, by levels -/
def eqV (P : Program) (S : St) : Nat → TypeId → VV → VV → Option Bool
  | 0, _, _, _ => none
  | d + 1, t, x, y =>
    match P.underlying t with
    | some .bool => match x, y with
      | .bool a, .bool b => some (a == b)
      | _, _ => none
    | some (.int _) => match x, y with
      | .int k a, .int k' b => if k = k' then some (a == b) else none
      | _, _ => none
    | some .string => match x, y with
      | .str a, .str b => some (strEq a b)
      | _, _ => none
    | some (.pointer e) => match x, y with
      | .ptr none, .ptr b => some b.isNone
      | .ptr (some _), .ptr none => some false
      | .ptr (some (i, o)), .ptr (some (j, o')) => match sizeV P e with
        | some (_ + 1) =>
          if i = j then some (o == o') else if apartV S i j then some false else none
        | _ => none
      | _, _ => none
    | some (.slice _) => match x, y with
      | .slice none _ _, .slice b _ _ => some b.isNone
      | .slice (some _) _ _, .slice none _ _ => some false
      | _, _ => none
    | some (.map _ _) => match x, y with
      | .map none, .map b => some b.isNone
      | .map (some _), .map none => some false
      | _, _ => none
    | some (.func _ _ _) => match x, y with
      | .nilFunc, .nilFunc => some true
      | .nilFunc, .func _ _ _ => some false
      | .func _ _ _, .nilFunc => some false
      | _, _ => none
    | some (.interface _) => match x, y with
      | .nilIface, .nilIface => some true
      | .nilIface, .iface _ _ => some false
      | .iface _ _, .nilIface => some false
      | .iface tx vx, .iface ty vy =>
        if tx ≠ ty then some false else
        match P.info? tx with
        | some i => if i.comparable then eqV P S d tx vx vy else none
        | none => none
      | _, _ => none
    | some (.struct fields) => match x, y with
      | .agg xs, .agg ys => if P.stoodInHeld t then none else eqFieldsV P (eqV P S d) xs ys fields.toList
      | _, _ => none
    | some (.array n e) => match x, y with
      | .agg xs, .agg ys => match sizeV P e with
        | some z => eqElemsV P (eqV P S d) e z xs ys n 0
        | none => none
      | _, _ => none
    | _ => none

end Go.Vm

/-
  A virtual semantics of the model's code (3): each operation that calls nothing.
-/
namespace Go.Vm

/-- the cells that a value takes, of one that is known -/
def cellsV : VV → Option (List VV)
  | .any => none
  | .agg cs => some cs
  | v => some [v]

def fillV (place : Nat → Option (Nat × Nat)) (cells : List VV) : List (Nat × VV) → Option (List VV)
  | [] => some cells
  | (i, v) :: rest =>
    match place i, cellsV v with
    | some (off, size), some cs =>
      if cs.length = size ∧ off + cs.length ≤ cells.length then
        fillV place (cells.take off ++ (cs ++ cells.drop (off + cs.length))) rest
      else none
    | _, _ => none

def placesV (P : Program) : List Field → Option (List (Nat × Nat))
  | [] => some []
  | f :: fs => match sizeV P f.type, placesV P fs with
    | some n, some l => some ((f.offset, n) :: l)
    | _, _ => none

def buildV (P : Program) (t : TypeId) (parts : List (Nat × VV)) : Option VV :=
  match zeroV P t with
  | none => none
  | some z => match cellsV z with
    | none => none
    | some zero => match P.underlying t with
      | some (.struct fields) => match placesV P fields.toList with
        | none => none
        | some places => match fillV (places[·]?) zero parts with
          | some cs => some (.agg cs)
          | none => none
      | some (.array _ e) => match sizeV P e with
        | none => none
        | some size => match fillV (fun i => some (i * size, size)) zero parts with
          | some cs => some (.agg cs)
          | none => none
      | _ => none

/-- n cells, of a zero value's over and over -/
def zerosV (z : List VV) (n : Nat) : List VV := (List.range n).map fun i => z.getD (i % z.length) .any

/-- of an element type: its size, a row of n cells -/
def zeroRowV (P : Program) (e : TypeId) (n : Nat) : Option (List VV) :=
  match n with
  | 0 => some []
  | n + 1 => match zeroV P e with
    | some z => match cellsV z with
      | some (c :: cs) => some (zerosV (c :: cs) (n + 1))
      | _ => none
    | none => none

def buildSliceV (P : Program) (S : St) (t : TypeId) (len : Nat) (parts : List (Nat × VV)) : Option (VV × St) :=
  match P.underlying t with
  | some (.slice e) => match sizeV P e with
    | some size =>
      if len * size ≤ 16777216 then
        match zeroRowV P e (len * size) with
        | some row => match fillV (fun i => some (i * size, size)) row parts with
          | some cs => match newRowV S cs (len * size) e false with
            | some (r, S) => some (.slice (some (r, 0)) len (.just len), S)
            | none => none
          | none => none
        | none => none
      else none
    | none => none
  | _ => none

def boxV (S : St) (t : TypeId) (v : VV) : Option (VV × St) :=
  match cellsV v with
  | some cs => match newRowV S cs cs.length t false with
    | some (r, S) => some (.ptr (some (r, 0)), S)
    | none => none
  | none => none

def allocV (P : Program) (S : St) (t : TypeId) : Option (VV × St) :=
  match zeroV P t with
  | some z => boxV S t z
  | none => none

def storeVarV (P : Program) (S : St) (t : TypeId) (a v : VV) : Option (VV × St) :=
  match a, cellsV v, sizeV P t with
  | .ptr (some (id, off)), some cs, some n =>
    if cs.length = n then
      match storeV S id off cs with
      | some S => some (undefV, S)
      | none => none
    else none
  | _, _, _ => none

def fieldAddrV (P : Program) (s : TypeId) (a : VV) (f : Nat) : Option VV :=
  match P.underlying s with
  | some (.struct fields) => match fields[f]?, a with
    | some fd, .ptr (some (id, off)) => match sizeV P fd.type with
      | some (_ + 1) => some (.ptr (some (id, off + fd.offset)))
      | _ => none
    | _, _ => none
  | _ => none

def fieldV (P : Program) (t : TypeId) (x : VV) (f : Nat) : Option VV :=
  match P.underlying t with
  | some (.struct fields) => match fields[f]?, x with
    | some fd, .agg cs => partV P fd.type cs fd.offset
    | _, _ => none
  | _ => none

def indexAddrV (P : Program) (t : TypeId) (x ix : VV) : Option VV :=
  match ix with
  | .int _ i =>
    if 0 ≤ i then
      match P.underlying t with
      | some (.array len e) => match x, sizeV P e with
        | .ptr (some (id, off)), some n => match Nat.blt i.toNat len with
          | true => some (.ptr (some (id, off + i.toNat * n)))
          | false => none
        | _, _ => none
      | some (.slice e) => match x, sizeV P e with
        | .slice (some (id, off)) len _, some n => match Nat.blt i.toNat len with
          | true => some (.ptr (some (id, off + i.toNat * n)))
          | false => none
        | _, _ => none
      | _ => none
    else none
  | _ => none

def indexV (P : Program) (t : TypeId) (x ix : VV) : Option VV :=
  match ix with
  | .int _ i =>
    if 0 ≤ i then
      match P.underlying t with
      | some (.array len e) => match x, sizeV P e with
        | .agg cs, some n => match Nat.blt i.toNat len with
          | true => partV P e cs (i.toNat * n)
          | false => none
        | _, _ => none
      | some .string => match x with
        | .str s => match s[i.toNat]? with
          | some b => some (.int .u8 b.toNat)
          | none => none
        | _ => none
      | _ => none
    else none
  | _ => none

/- slices -/
def boundV (x : VV) (y : Nat) : Option Nat :=
  match x with
  | .int _ i => if 0 ≤ i then (match Nat.ble i.toNat y with | true => some i.toNat | false => none) else none
  | _ => none

def optBoundV (x : Option VV) (y d : Nat) : Option Nat :=
  match x with
  | some v => boundV v y
  | none => some d

/-- low, high, max of what has n, of which high is d if it isn't said -/
def boundsV (d n : Nat) (lo hi mx : Option VV) : Option (Nat × Nat × Nat) :=
  match optBoundV mx n n with
  | none => none
  | some m => match optBoundV hi m d with
    | none => none
    | some h => match optBoundV lo h 0 with
      | none => none
      | some l => some (l, h, m)

def sliceV (P : Program) (t : TypeId) (x : VV) (lo hi mx : Option VV) : Option VV :=
  match P.underlying t with
  | some (.array n e) => match x, sizeV P e with
    | .ptr (some (id, off)), some size =>
      if hi = none ∧ mx ≠ none then none else
      match boundsV n n lo hi mx with
      | some (l, h, m) => some (.slice (some (if m = l then (id, off) else (id, off + l * size))) (h - l) (.just (m - l)))
      | none => none
    | _, _ => none
  | some .string => match x, mx with
    | .str s, none => match boundsV s.length s.length lo hi none with
      | some (l, h, _) => some (.str ((s.drop l).take (h - l)))
      | none => none
    | _, _ => none
  | some (.slice e) => match x, sizeV P e with
    | .slice a len (.just c), some size =>
      if hi = none ∧ mx ≠ none then none else
      match boundsV len c lo hi mx with
      | some (l, h, m) => some (.slice (if m = l then a else a.map fun (id, off) => (id, off + l * size)) (h - l) (.just (m - l)))
      | none => none
    | .slice (some (id, off)) len (.rest z), some size =>
      if z = size then
        match mx with
        | none => match boundsV len len lo hi none with
          | some (l, h, _) => some (.slice (some (id, off + l * size)) (h - l) (.rest size))
          | none => none
        | some _ => if hi = none then none else match boundsV len len lo hi mx with
          | some (l, h, m) => if m = l then some (.slice (some (id, off)) 0 (.just 0)) else some (.slice (some (id, off + l * size)) (h - l) (.just (m - l)))
          | none => none
      else none
    | _, _ => none
  | _ => none

def extractV (x : VV) (i : Nat) : Option VV :=
  match x with
  | .tuple vs => vs[i]?
  | _ => none

def nilCheckV (x : VV) : Option VV :=
  match x with
  | .ptr (some a) => some (.ptr (some a))
  | .func (.func f) a b => some (.func (.func f) a b)
  | .func (.yield f) a b => some (.func (.yield f) a b)
  | .iface t v => some (.iface t v)
  | _ => none

def unV (op : UnOp) (x : VV) : Option VV :=
  match op, x with
  | .not, .bool b => some (.bool (!b))
  | .neg, .int k n => intOpV .sub k 0 n
  | .xor, .int k n => intOpV .xor k (if k.signed then -1 else k.max) n
  | _, _ => none

def isConstO : Operand → Bool
  | .const _ => true
  | _ => false

/-- how deep '==' is looked into -/
def eqDepth : Nat := 10000

def binV (P : Program) (S : St) (op : BinOp) (t : TypeId) (x y : Operand) (a b : VV) : Option VV :=
  match a, b with
  | .int k m, .int k' n => match op with
    | .shl => shiftV .shl k m n
    | .shr => shiftV .shr k m n
    | op => if k = k' then intOpV op k m n else none
  | .str s, .str u => strOpV op s u
  | .nilIface, .nilIface =>
    if isConstO x || isConstO y then
      match op with
      | .eql => match eqV P S eqDepth t .nilIface .nilIface with
        | some r => some (.bool r)
        | none => none
      | .neq => match eqV P S eqDepth t .nilIface .nilIface with
        | some r => some (.bool (!r))
        | none => none
      | _ => none
    else none
  | .agg c, .agg d =>
    if P.eqGuardType P.depth t then none else
    match op with
    | .eql => match eqV P S eqDepth t (.agg c) (.agg d) with
      | some r => some (.bool r)
      | none => none
    | .neq => match eqV P S eqDepth t (.agg c) (.agg d) with
      | some r => some (.bool (!r))
      | none => none
    | _ => none
  | .any, _ => none
  | _, .any => none
  | .int _ _, _ => none
  | _, .int _ _ => none
  | a, b => match op with
    | .eql => match eqV P S eqDepth t a b with
      | some r => some (.bool r)
      | none => none
    | .neq => match eqV P S eqDepth t a b with
      | some r => some (.bool (!r))
      | none => none
    | _ => none

/- bytes -/
def bytesOfV : List VV → Option (List UInt8)
  | [] => some []
  | .int .u8 n :: l => match bytesOfV l with
    | some r => some (UInt8.ofNat n.toNat :: r)
    | none => none
  | _ :: _ => none

def cellsOfBytes (s : List UInt8) : List VV := s.map fun b => .int .u8 b.toNat

def convertV (P : Program) (S : St) (src dst : TypeId) (x : VV) : Option (VV × St) :=
  match x with
  | .int _ n => match P.underlying src, P.underlying dst with
    | some _, some (.int k) => some (.int k (k.wrap n), S)
    | some _, some .string => some (.str (Utf8.encode n).data.toList, S)
    | _, _ => none
  | .str s => match P.underlying src, P.underlying dst with
    | some _, some .string => some (.str s, S)
    | some _, some (.slice e) => match P.underlying e with
      | some (.int .u8) =>
        (Tr.ofList (cellsOfBytes s)).with_ fun c => (S.h.set S.nx (.cells c s.length e false true)).with_ fun h =>
          some (.slice (some (S.nx, 0)) s.length (.rest 1), { h := h, nx := S.nx + 1 })
      | _ => none
    | _, _ => none
  | .slice none n c => match P.underlying src, P.underlying dst with
    | some (.slice e), some .string => match P.underlying e with
      | some (.int .u8) => if n = 0 then some (.str [], S) else none
      | _ => none
    | _, _ => none
  | .slice (some (id, off)) n c => match P.underlying src, P.underlying dst with
    | some (.slice e), some .string => match P.underlying e with
      | some (.int .u8) => match loadV S id off n with
        | some l => match bytesOfV l with
          | some s => some (.str s, S)
          | none => none
        | none => none
      | _ => none
    | some (.slice _), some (.slice e) => match P.underlying e with
      | some (.int .u8) =>
        if src = dst then
          match S.h.get id with
          | some (.cells cs m t false _) => (S.h.set id (.cells cs m t false true)).with_ fun h => some (.slice (some (id, off)) n c, { S with h := h })
          | _ => none
        else none
      | _ => none
    | _, _ => none
  | _ => none

def makeInterfaceV (P : Program) (t : TypeId) (x : VV) : Option VV :=
  match P.underlying t with
  | some (.interface _) => none
  | some _ => some (.iface t x)
  | none => none

def makeMapV (P : Program) (S : St) (t : TypeId) (r : Option VV) : Option (VV × St) :=
  match r with
  | none => (S.h.set S.nx (.map [] 0)).with_ fun h => some (.map (some S.nx), { h := h, nx := S.nx + 1 })
  | some (.int _ _) => match P.underlying t with
    | some (.map _ _) => (S.h.set S.nx (.map [] 0)).with_ fun h => some (.map (some S.nx), { h := h, nx := S.nx + 1 })
    | _ => none
  | _ => none

def bytesV (P : Program) (t : TypeId) : Option Nat :=
  match P.info? t with
  | some i => some i.bytes
  | none => none

def makeSliceV (P : Program) (S : St) (t : TypeId) (len cap : VV) : Option (VV × St) :=
  match P.underlying t, len, cap with
  | some (.slice e), .int _ l0, .int _ c0 =>
    let l := IntKind.i64.wrap l0
    let c := IntKind.i64.wrap c0
    match sizeV P e, bytesV P e with
    | some size, some bytes =>
      if 0 ≤ l ∧ l ≤ c ∧ (bytes : Int) * c ≤ 281474976710656 then
        match zeroRowV P e (c.toNat * size) with
        | some row => match newRowV S row (c.toNat * size) e false with
          | some (r, S) => some (.slice (some (r, 0)) l.toNat (.just c.toNat), S)
          | none => none
        | none => none
      else none
    | _, _ => none
  | _, _, _ => none

/- maps -/
/-- may a value of this type be a key, without a look into it? -/
def keyPlain (P : Program) (t : TypeId) : Bool :=
  match P.underlying t with
  | some (.interface _) | some (.array _ _) | some (.struct _) | none => false
  | some _ => true

def keyFields (P : Program) (n : Nat) : List Field → Bool
  | [] => true
  | f :: fs => keyPlain P f.type && (match isAggV P f.type with | some false => true | _ => false) && Nat.blt f.offset n && keyFields P n fs

def keyOk (P : Program) (t : TypeId) (k : VV) : Bool :=
  match P.underlying t with
  | some (.struct fs) => match k with
    | .agg cs => keyFields P cs.length fs.toList
    | _ => false
  | _ => keyPlain P t

/-- where a key is, and what is there -/
def findV (P : Program) (S : St) (t : TypeId) (k : VV) : List (VV × VV × Nat) → Nat → Option (Option (Nat × VV × Nat))
  | [], _ => some none
  | (k', v, b) :: es, i => match eqV P S eqDepth t k k' with
    | some true => some (some (i, v, b))
    | some false => findV P S t k es (i + 1)
    | none => none

def sameV : VV → VV → Bool
  | .bool a, .bool b => a == b
  | .int j a, .int k b => decide (j = k) && a == b
  | .str a, .str b => strEq a b
  | .agg a, .agg b => sameAll a b
  | _, _ => false
  where
  sameAll : List VV → List VV → Bool
    | [], [] => true
    | .int j a :: l, .int k b :: m => decide (j = k) && a == b && sameAll l m
    | .str a :: l, .str b :: m => strEq a b && sameAll l m
    | .bool a :: l, .bool b :: m => a == b && sameAll l m
    | _, _ => false

def mapOfV (S : St) (x : VV) : Option (Nat × List (VV × VV × Nat) × Nat) :=
  match x with
  | .map (some r) => match S.h.get r with
    | some (.map es c) => some (r, es, c)
    | _ => none
  | _ => none

def lookupV (P : Program) (S : St) (t : TypeId) (x k : VV) (ok : Bool) : Option VV :=
  match P.underlying t with
  | some (.map kt et) =>
    match keyOk P kt k with
    | false => none
    | true =>
      match (match x with | .map none => some [] | _ => match mapOfV S x with | some (_, es, _) => some es | none => none) with
      | none => none
      | some es => match findV P S kt k es 0 with
        | none => none
        | some (some (_, v, _)) => some (if ok then .tuple [v, .bool true] else v)
        | some none => match zeroV P et with
          | some z => some (if ok then .tuple [z, .bool false] else z)
          | none => none
  | _ => none

def mapSetV (P : Program) (S : St) (t : TypeId) (x k v : VV) : Option (VV × St) :=
  match P.underlying t with
  | some (.map kt _) =>
    match keyOk P kt k, mapOfV S x with
    | true, some (r, es, c) => match findV P S kt k es 0 with
      | none => none
      | some (some (i, _, b)) => match es[i]? with
        | some (k', _, _) => match sameV k' k with
          | true => (S.h.set r (.map (es.set i (k, v, b)) c)).with_ fun h => some (undefV, { S with h := h })
          | false => none
        | none => none
      | some none => (S.h.set r (.map (es ++ [(k, v, c)]) (c + 1))).with_ fun h => some (undefV, { S with h := h })
    | _, _ => none
  | _ => none

def deleteV (P : Program) (S : St) (t : TypeId) (x k : VV) : Option (VV × St) :=
  match P.underlying t with
  | some (.map kt _) =>
    match keyOk P kt k with
    | false => none
    | true => match x with
      | .map none => some (undefV, S)
      | _ => match mapOfV S x with
        | some (r, es, c) => match findV P S kt k es 0 with
          | none => none
          | some (some (i, _, _)) => (S.h.set r (.map (es.eraseIdx i) c)).with_ fun h => some (undefV, { S with h := h })
          | some none => some (undefV, S)
        | none => none
  | _ => none

/- slices and strings as sources -/
def lenOfV : VV → Option Nat
  | .slice _ n _ => some n
  | .str s => some s.length
  | _ => none

def firstV (S : St) (size n : Nat) : VV → Option (List VV)
  | .slice (some (id, off)) _ _ => match n * size with
    | 0 => some []
    | k + 1 => loadV S id off (k + 1)
  | .slice none _ _ => match n * size with
    | 0 => some []
    | _ => none
  | .str s => match size with
    | 1 => some (cellsOfBytes (s.take n))
    | _ => none
  | _ => none

/-- is there room in memory for so many? -/
def roomV (need bytes : Nat) : Bool := Nat.ble ((2 * need + 1000) * bytes) 281474976710656 && Nat.ble need 4611686018427387904

/-- is the zero of an element type known, and of the type's size? -/
def zeroOk (P : Program) (e : TypeId) (size : Nat) : Bool :=
  match zeroV P e with
  | some z => match cellsV z with
    | some cs => cs.length == size
    | none => false
  | none => false

/-- what is appended, and how many elements these are -/
def appendedV (P : Program) (S : St) (xt e : TypeId) (size : Nat) (x : VV) : Option (List VV × Nat) :=
  match P.underlying xt with
  | some (.int _) => match x with
    | .int _ l => if 0 ≤ IntKind.i64.wrap l then
        (match zeroRowV P e ((IntKind.i64.wrap l).toNat * size) with
         | some new => some (new, (IntKind.i64.wrap l).toNat)
         | none => none) else none
    | _ => none
  | some _ => match lenOfV x with
    | some m => match firstV S size m x with
      | some new => some (new, m)
      | none => none
    | none => none
  | none => none

def appendTo (S : St) (e : TypeId) (size : Nat) (base : Option (Nat × Nat)) (n : Nat) (cap : Cap) (new : List VV) (m : Nat) : Option (VV × St) :=
  match base, cap with
  | none, .just 0 => match n, m with
    | 0, 0 => some (.slice none 0 (.just 0), S)
    | 0, m + 1 => match newRowV S new new.length e false with
      | some (r, S) => some (.slice (some (r, 0)) (m + 1) (.rest size), S)
      | none => none
    | _, _ => none
  | some (id, off), .just c =>
    if n + m ≤ c then
      match storeV S id (off + n * size) new with
      | some S => some (.slice (some (id, off)) (n + m) (.just c), S)
      | none => none
    else match firstV S size n (.slice (some (id, off)) n (.just c)) with
      | some old => match newRowV S (old ++ new) (old ++ new).length e false with
        | some (r, S) => some (.slice (some (r, 0)) (n + m) (.rest size), S)
        | none => none
      | none => none
  | some (id, off), .rest z =>
    if z = size then
      match m with
      | 0 => some (.slice (some (id, off)) n (.rest size), S)
      | m + 1 => match S.h.get id with
        | some (.cells c k t false mk) =>
          if off + (n + (m + 1)) * size ≤ k ∧ n ≠ 0 then
            match storeV S id (off + n * size) new with
            | some S => some (.slice (some (id, off)) (n + (m + 1)) (.rest size), S)
            | none => none
          else match c.row off (n * size) with
            | some old => match newRowV { S with h := S.h.del id } (old ++ new) (old ++ new).length e mk with
              | some (r, S) => some (.slice (some (r, 0)) (n + (m + 1)) (.rest size), S)
              | none => none
            | none => none
        | _ => none
    else none
  | _, _ => none

def appendV (P : Program) (S : St) (ts : List TypeId) (args : List VV) : Option (VV × St) :=
  match ts, args with
  | [t, xt], [.slice base n cap, x] => match P.underlying t with
    | some (.slice e) => match sizeV P e, bytesV P e with
      | some (size + 1), some bytes =>
        match zeroOk P e (size + 1), appendedV P S xt e (size + 1) x with
        | true, some (new, m) =>
          match roomV (n + m) bytes with
          | false => none
          | true => appendTo S e (size + 1) base n cap new m
        | _, _ => none
      | _, _ => none
    | _ => none
  | _, _ => none

def copyV (P : Program) (S : St) (ts : List TypeId) (args : List VV) : Option (VV × St) :=
  match ts, args with
  | t :: _, [.slice base n _, x] => match P.underlying t with
    | some (.slice e) => match sizeV P e, lenOfV x with
      | some size, some m => match firstV S size (Nat.min m n) x with
        | some new => match base with
          | some (id, off) => match storeV S id off new with
            | some S => some (.int .i64 (Nat.min m n), S)
            | none => none
          | none => some (.int .i64 (Nat.min m n), S)
        | none => none
      | _, _ => none
    | _ => none
  | _, _ => none

def lenV (P : Program) (S : St) (ts : List TypeId) (args : List VV) : Option VV :=
  match ts, args with
  | [t], [x] => match P.underlying t with
    | some .string => match x with
      | .str s => some (.int .i64 s.length)
      | _ => none
    | some (.array n _) => some (.int .i64 n)
    | some (.slice _) => match x with
      | .slice _ n _ => some (.int .i64 n)
      | _ => none
    | some (.map _ _) => match x with
      | .map none => some (.int .i64 0)
      | _ => match mapOfV S x with
        | some (_, es, _) => some (.int .i64 es.length)
        | none => none
    | _ => none
  | _, _ => none

def capV (P : Program) (ts : List TypeId) (args : List VV) : Option VV :=
  match ts, args with
  | [t], [x] => match P.underlying t with
    | some (.array n _) => some (.int .i64 n)
    | some (.slice _) => match x with
      | .slice _ _ (.just n) => some (.int .i64 n)
      | _ => none
    | _ => none
  | _, _ => none

def minMaxV (mx : Bool) : VV → List VV → Option VV
  | x, [] => match x with
    | .int k n => some (.int k n)
    | _ => none
  | .int k a, .int _ b :: l => minMaxV mx (.int k (if mx then (if b > a then b else a) else (if b < a then b else a))) l
  | _, _ => none

def clearV (P : Program) (S : St) (ts : List TypeId) (args : List VV) : Option (VV × St) :=
  match ts, args with
  | [t], [x] => match P.underlying t with
    | some (.map _ _) => match x with
      | .map none => some (undefV, S)
      | _ => match mapOfV S x with
        | some (r, _, c) => (S.h.set r (.map [] c)).with_ fun h => some (undefV, { S with h := h })
        | none => none
    | some (.slice e) => match x with
      | .slice none _ _ => some (undefV, S)
      | .slice (some (id, off)) n _ => match n with
        | 0 => some (undefV, S)
        | n + 1 => match zeroV P e with
          | some z => match cellsV z with
            | some (c :: cs) => match storeV S id off (zerosV (c :: cs) ((n + 1) * (c :: cs).length)) with
              | some S => some (undefV, S)
              | none => none
            | _ => none
          | none => none
      | _ => none
    | _ => none
  | _, _ => none

def builtinV (P : Program) (S : St) (b : Builtin) (ts : List TypeId) (args : List VV) : Option (VV × St) :=
  match b with
  | .append => appendV P S ts args
  | .copy => copyV P S ts args
  | .len => match lenV P S ts args with
    | some v => some (v, S)
    | none => none
  | .cap => match capV P ts args with
    | some v => some (v, S)
    | none => none
  | .min => match args with
    | x :: l => match minMaxV false x l with
      | some v => some (v, S)
      | none => none
    | [] => none
  | .max => match args with
    | x :: l => match minMaxV true x l with
      | some v => some (v, S)
      | none => none
    | [] => none
  | .delete => match ts, args with
    | t :: _, [m, k] => deleteV P S t m k
    | _, _ => none
  | .clear => clearV P S ts args
  | _ => none

/- iterators -/
def rangeV (P : Program) (S : St) (t : TypeId) (x : VV) : Option (VV × St) :=
  match (match P.underlying t, x with
    | some .string, .str s => some (.strIter s 0)
    | some (.map _ _), .map none => some (.mapIter none 0 [] 0)
    | some (.map _ _), _ => match mapOfV S x with
      | some (r, _, c) => some (.mapIter (some r) c [] c)
      | none => none
    | _, _ => (none : Option VObj)) with
  | some o => (S.h.set S.nx o).with_ fun h => some (.ptr (some (S.nx, 0)), { h := h, nx := S.nx + 1 })
  | none => none

/-- entries that have not been met -/
def leftV (seen : List Nat) : List (VV × VV × Nat) → List (VV × VV × Nat)
  | [] => []
  | (k, v, b) :: es => if seen.contains b then leftV seen es else (k, v, b) :: leftV seen es

/-- one step of an iterator: what may come of it -/
def nextV (S : St) (it : VV) (isString : Bool) : Option (List (VV × St)) :=
  match it with
  | .ptr (some (r, 0)) => match S.h.get r with
    | some (.strIter s pos) =>
      if isString then
        if pos < s.length then
          let (c, width) := Utf8.decode ⟨s.toArray⟩ pos
          (S.h.set r (.strIter s (pos + width))).with_ fun h => some [(.tuple [.bool true, .int .i64 pos, .int .i32 c], { S with h := h })]
        else some [(.tuple [.bool false], S)]
      else none
    | some (.mapIter none _ _ _) => if isString then none else some [(.tuple [.bool false], S)]
    | some (.mapIter (some m) since seen last) =>
      if isString then none else
      match S.h.get m with
      | some (.map es clock) =>
        if !seen.isEmpty && !es.isEmpty && es.all (fun e => last ≤ e.2.2) then none else
        match leftV seen es with
        | [] => some [(.tuple [.bool false], { S with h := S.h.del r })]
        | left =>
          if left.all (fun e => e.2.2 < since) then
            some (left.map fun e => (.tuple [.bool true, e.1, e.2.1], { S with h := S.h.set r (.mapIter (some m) since (seen ++ [e.2.2]) clock) }))
          else none
      | _ => none
    | _ => none
  | _ => none

def entryOf (stamp : Nat) : List (VV × VV × Nat) → Option VV
  | [] => none
  | (k, v, b) :: es => if b == stamp then some (.tuple [k, v]) else entryOf stamp es

/-- the entry at which an iterator stands -/
def entryV (S : St) (it : VV) : Option VV :=
  match it with
  | .ptr (some (r, 0)) => match S.h.get r with
    | some (.mapIter (some m) _ seen stepped) => match seen.getLast?, S.h.get m with
      | some stamp, some (.map es clock) => if clock = stepped then entryOf stamp es else none
      | _, _ => none
    | _ => none
  | _ => none

def typeAssertV (P : Program) (x : VV) (asserted : TypeId) (ok : Bool) : Option VV :=
  match P.underlying asserted, x with
  | some (.interface _), .nilIface => if ok then (match zeroV P asserted with | some z => some (.tuple [z, .bool false]) | none => none) else none
  | some (.interface want), .iface t v => match P.info? t with
    | some i => match Instr.missingMethod want i.methods with
      | none => some (if ok then .tuple [.iface t v, .bool true] else .iface t v)
      | some _ => if ok then (match zeroV P asserted with | some z => some (.tuple [z, .bool false]) | none => none) else none
    | none => none
  | some _, .nilIface => if ok then (match zeroV P asserted with | some z => some (.tuple [z, .bool false]) | none => none) else none
  | some _, .iface t v =>
    if t = asserted then some (if ok then .tuple [v, .bool true] else v)
    else if ok then (match zeroV P asserted with | some z => some (.tuple [z, .bool false]) | none => none) else none
  | _, _ => none

def optV (x : Option VV) (S : St) : Option (VV × St) :=
  match x with
  | some v => some (v, S)
  | none => none

/-- an operation that calls nothing, defers nothing, ends nothing, and has one outcome -/
def simpleV (P : Program) (e : Operand → VV) (S : St) (op : Op) : Option (VV × St) :=
  match op with
  | .move x => some (e x, S)
  | .assign x => some (e x, S)
  | .pick c a b => match e c with
    | .bool true => some (e a, S)
    | .bool false => some (e b, S)
    | _ => none
  | .alloc t => allocV P S t
  | .box t x => boxV S t (e x)
  | .build t ps => optV (buildV P t (ps.toList.map fun (i, x) => (i, e x))) S
  | .buildSlice t n ps => buildSliceV P S t n (ps.toList.map fun (i, x) => (i, e x))
  | .insert t m k x => mapSetV P S t (e m) (e k) (e x)
  | .load t a => match e a with
    | .ptr (some (id, off)) => optV (loadVarV P S t id off) S
    | _ => none
  | .store t a x => storeVarV P S t (e a) (e x)
  | .nilCheck x => optV (nilCheckV (e x)) S
  | .binOp op t x y _ => optV (binV P S op t x y (e x) (e y)) S
  | .unOp op _ x => optV (unV op (e x)) S
  | .convert a b x => convertV P S a b (e x)
  | .makeInterface t x => optV (makeInterfaceV P t (e x)) S
  | .makeFunc fn a b => match fn with
    | .yield _ => none
    | fn => some (.func fn (a.toList.map e) (b.toList.map e), S)
  | .makeMap t r => makeMapV P S t (r.map e)
  | .makeSlice t l c => makeSliceV P S t (e l) (e c)
  | .slice t x l h m => optV (sliceV P t (e x) (l.map e) (h.map e) (m.map e)) S
  | .fieldAddr t x f => optV (fieldAddrV P t (e x) f) S
  | .field t x f => optV (fieldV P t (e x) f) S
  | .indexAddr t x i => optV (indexAddrV P t (e x) (e i)) S
  | .index t x i => optV (indexV P t (e x) (e i)) S
  | .lookup t x i ok => optV (lookupV P S t (e x) (e i) ok) S
  | .mapUpdate t m k x => mapSetV P S t (e m) (e k) (e x)
  | .range t x => rangeV P S t (e x)
  | .entry x => optV (entryV S (e x)) S
  | .typeAssert x _ t ok => optV (typeAssertV P (e x) t ok) S
  | .extract x i => optV (extractV (e x) i) S
  | .call c => match c.callee with
    | .builtin b => builtinV P S b c.argTypes.toList (c.args.toList.map e)
    | _ => none
  | _ => none

end Go.Vm

/-
  A virtual semantics of the model's code (4): code, calls, panics, ranges over functions; regions that draw their order.
-/
namespace Go.Vm

inductive Ex where
  | normal
  | exit (id : Nat)
  | ret
  | panic (chain : List VPan)

inductive En where
  | returned (v : VV)
  | panicked (chain : List VPan)

structure FI where
  fn : FuncId
  round : Option Nat

/-- what stands in a function's place: how it ends and a state, of arguments and a state -/
abbrev Ov := FuncId → Option (List VV → St → Option (En × St))

abbrev CodeR := List (Ex × Fr × St)
abbrev CallR := List (En × Option (List VPan) × St)

structure Rec where
  code : FI → Code → Fr → St → Option CodeR
  call : FuncId → List VV → Option (List VPan) → St → Option CallR
  unw : FuncId → Option (List VPan) → Fr → St → Option CallR
  round : Nat → List VV → St → Option CallR

def bindL {α β : Type} (x : Option (List α)) (f : α → Option (List β)) : Option (List β) :=
  match x with
  | none => none
  | some l => go f l
  where
  go (f : α → Option (List β)) : List α → Option (List β)
    | [] => some []
    | a :: l => match l with
      | [] => f a
      | _ :: _ => match f a, go f l with
        | some r, some s => some (r ++ s)
        | _, _ => none

/- numbers are forced before they are laid down -/
def natS {β : Type} (n : Nat) (c : Nat → β) : β :=
  match n with
  | 0 => c 0
  | n + 1 => c (n + 1)
def intS {β : Type} (n : Int) (c : Int → β) : β :=
  match n with
  | .ofNat n => natS n fun n => c (.ofNat n)
  | .negSucc n => natS n fun n => c (.negSucc n)
def boolS {β : Type} (b : Bool) (c : Bool → β) : β :=
  match b with
  | true => c true
  | false => c false
def VV.strict {β : Type} (v : VV) (c : VV → β) : β :=
  match v with
  | .int k n => intS n fun n => c (.int k n)
  | .bool b => boolS b fun b => c (.bool b)
  | .ptr a => match a with
    | none => c (.ptr none)
    | some (r, o) => natS r fun r => natS o fun o => c (.ptr (some (r, o)))
  | .slice a n cap => natS n fun n => match a with
    | none => c (.slice none n cap)
    | some (r, o) => natS r fun r => natS o fun o => c (.slice (some (r, o)) n cap)
  | v => c v

@[simp] theorem natS_eq {β : Type} (n : Nat) (c : Nat → β) : natS n c = c n := by cases n <;> rfl
@[simp] theorem intS_eq {β : Type} (n : Int) (c : Int → β) : intS n c = c n := by cases n <;> simp [intS]
@[simp] theorem boolS_eq {β : Type} (n : Bool) (c : Bool → β) : boolS n c = c n := by cases n <;> rfl
@[simp] theorem VV.strict_eq {β : Type} (v : VV) (c : VV → β) : v.strict c = c v := by
  cases v with
  | ptr a => cases a with
    | none => rfl
    | some p => simp [VV.strict]
  | slice a n cap => cases a with
    | none => simp [VV.strict]
    | some p => simp [VV.strict]
  | _ => simp [VV.strict]

def Fr.put (fr : Fr) (dst : Option Tmp) (v : VV) : Option Fr :=
  match dst with
  | none => some fr
  | some d => match Nat.blt d fr.n with
    | true => v.strict fun v => (fr.t.set d v).with_ fun t => some { fr with t := t }
    | false => none

/-- is the operation wanted: what its guard's operation has yielded -/
def wantedV (ops : Array Oper) (o : Oper) (look : Tmp → Option VV) : Option Bool :=
  match o.guard with
  | none => some true
  | some (j, want) => match ops[j]? with
    | some g => match g.dst with
      | some d => match look d with
        | some (.bool b) => some (b == want)
        | some .any => none
        | some _ => some false
        | none => none
      | none => some false
    | none => some false

/-- a call of a function value -/
def callV (P : Program) (ov : Ov) (r : Rec) (fn : Fn) (args : List VV) (S : St) : Option CallR :=
  match fn with
  | .func f => match ov f with
    | some g => match g args S with
      | some (e, S) => some [(e, none, S)]
      | none => none
    | none => r.call f args none S
  | .yield l => r.round l args S
  | _ => none

/-- a range's own function captures nothing -/
def yieldOk : Fn → List VV → Bool
  | .yield _, _ :: _ => false
  | _, _ => true

/-- what is called, with all its arguments -/
def calleeV (e : Operand → VV) (c : Call) : Option (Fn × List VV) :=
  match c.callee with
  | .value f => match e f with
    | .func fn first captured => match yieldOk fn captured with
      | true => some (fn, first ++ (c.args.toList.map e) ++ captured)
      | false => none
    | _ => none
  | _ => none

def deferV (e : Operand → VV) (c : Call) : Option VDef :=
  match c.callee with
  | .value f => match e f with
    | .func (.func g) first captured => some (.fn (.func g) captured (first ++ (c.args.toList.map e)))
    | _ => none
  | _ => none

def panicV (v : VV) : Option (List VPan) :=
  match v with
  | .iface t v => some [{ v := .iface t v, recovered := false }]
  | _ => none

/-- recover: what it answers, and the caller's panic behind it -/
def recoverV (rc : Option (List VPan)) : VV × Option (List VPan) :=
  match rc with
  | some (p :: older) => match p.recovered with
    | false => (p.v, some ({ v := p.v, recovered := true } :: older))
    | true => (.nilIface, rc)
  | rc => (.nilIface, rc)

/-- one operation, in a frame -/
def operV (P : Program) (ov : Ov) (r : Rec) (fi : FI) (o : Oper) (fr : Fr) (S : St) (k : Fr → St → Option CodeR) : Option CodeR :=
  match o.op with
  | .call c => match c.callee with
    | .builtin .recover => match fi.round with
      | some _ => none
      | none => match recoverV fr.rc with
        | (v, rc) => match ({ fr with rc := rc } : Fr).put o.dst v with
          | some fr => k fr S
          | none => none
    | .builtin _ => match simpleV P (fr.ev P.globals.size) S o.op with
      | some (v, S) => match fr.put o.dst v with
        | some fr => k fr S
        | none => none
      | none => none
    | _ => match calleeV (fr.ev P.globals.size) c with
      | none => none
      | some (fn, args) => bindL (callV P ov r fn args S) fun (e, _, S) => match e with
        | .returned v => match fr.put o.dst v with
          | some fr => k fr S
          | none => none
        | .panicked ch => some [(.panic ch, fr, S)]
  | .defer c => match fi.round, deferV (fr.ev P.globals.size) c with
    | none, some d => match ({ fr with ds := d :: fr.ds } : Fr).put o.dst undefV with
      | some fr => k fr S
      | none => none
    | _, _ => none
  | .panic x => match panicV (fr.ev P.globals.size x) with
    | some ch => some [(.panic ch, fr, S)]
    | none => none
  | .next it s => bindL (nextV S (fr.ev P.globals.size it) s) fun (v, S) => match fr.put o.dst v with
    | some fr => k fr S
    | none => none
  | op => match simpleV P (fr.ev P.globals.size) S op with
    | some (v, S) => match fr.put o.dst v with
      | some fr => k fr S
      | none => none
    | none => none

/-- the operations of a region, in the text's order -/
def opersV (P : Program) (ov : Ov) (r : Rec) (fi : FI) (ops : Array Oper) : List Oper → Fr → St → Option CodeR
  | [], fr, S => some [(.normal, fr, S)]
  | o :: l, fr, S => match wantedV ops o (fun d => fr.t.get d) with
    | some true => operV P ov r fi o fr S fun fr S => opersV P ov r fi ops l fr S
    | some false => match fr.put o.dst undefV with
      | some fr => opersV P ov r fi ops l fr S
      | none => none
    | none => none

/- regions that draw their order -/
/-- 0: touches no memory; 1: reads; 2: all else -/
def kindV : Op → Nat
  | .move _ | .assign _ | .pick .. | .build .. | .nilCheck _ | .unOp .. | .makeInterface .. | .makeFunc .. | .slice .. | .fieldAddr .. | .field .. | .indexAddr .. | .index ..
  | .extract .. | .typeAssert .. => 0
  | .binOp .. | .load .. | .lookup .. => 1
  | .call c => match c.callee with
    | .builtin .len => 1
    | .builtin .cap | .builtin .min | .builtin .max => 0
    | _ => 2
  | .convert .. => 3
  | _ => 2

/-- a conversion reads, if it is none to bytes -/
def kindOf (P : Program) (op : Op) : Nat :=
  match op with
  | .convert _ dst _ => match P.underlying dst with
    | some (.slice _) => 2
    | some _ => 1
    | none => 2
  | op => kindV op

def befB (b : Array Nat) (j i : Nat) : Bool := (b.getD i 0).testBit j

/-- who writes a slot, of these -/
def writerOf (ops : List Oper) (t : Tmp) : Nat → Option Nat :=
  go ops t
  where
  go : List Oper → Tmp → Nat → Option Nat
    | [], _, _ => none
    | o :: l, t, i => match o.dst with
      | some d => match Nat.beq d t with
        | true => some i
        | false => go l t (i + 1)
      | none => go l t (i + 1)

/-- the slots that an operation looks at -/
def looksV (ops : Array Oper) (o : Oper) : List Tmp :=
  (o.op.operands.toList.filterMap fun | .tmp t => some t | _ => none) ++
  (match o.guard with
   | some (g, _) => match ops[g]? with
     | some x => x.dst.toList
     | none => []
   | none => [])

def drawOk (P : Program) (ops : Array Oper) : Bool :=
  let b := Region.before ops
  let l := ops.toList.zipIdx
  -- each edge leads back; each slot has one writer; a slot's readers and its writer are in order; writers of memory are in order; guards are ahead
  l.all fun (o, i) =>
    (o.after.all fun e => !Region.binds .any e || Nat.blt e.on i) &&
    (match o.dst with
     | some d => l.all fun (p, j) => i == j || p.dst != some d
     | none => true) &&
    ((looksV ops o).all fun t => match writerOf ops.toList t 0 with
      | some j => j == i || befB b j i || befB b i j
      | none => true) &&
    (kindOf P o.op != 2 || l.all fun (p, j) => i == j || kindOf P p.op != 2 || befB b j i || befB b i j) &&
    (match o.guard with
     | some (g, _) => befB b g i
     | none => true)

/-- the slots as an operation sees them -/
def drawLook (ops : Array Oper) (b : Array Nat) (fr : Fr) (vals : Tr VV) (i : Nat) (t : Tmp) : Option VV :=
  match writerOf ops.toList t 0 with
  | some j => match befB b j i with
    | true => vals.get j
    | false => fr.t.get t
  | none => fr.t.get t

def drawEv (G : Nat) (ops : Array Oper) (b : Array Nat) (fr : Fr) (vals : Tr VV) (i : Nat) : Operand → VV := evO G fun t => drawLook ops b fr vals i t

/-- those that are behind nothing but what is listed and behind no writer of memory that is not: ahead of all else -/
def canonGo (P : Program) (ops : Array Oper) (b : Array Nat) : Nat → List Nat → List Nat → List Nat
  | 0, _, acc => acc.reverse
  | n + 1, todo, acc =>
    match todo.find? (fun i => (match ops[i]? with | some o => kindOf P o.op != 2 | none => true) && todo.all fun j => !befB b j i) with
    | some i => canonGo P ops b n (todo.filter (· != i)) (i :: acc)
    | none => match todo with
      | i :: rest => canonGo P ops b n rest (i :: acc)
      | [] => acc.reverse

def canonV (P : Program) (ops : Array Oper) : List Nat := canonGo P ops (Region.before ops) ops.size (List.range ops.size) []

/-- equal values, surely -/
def VV.same : VV → VV → Bool
  | .bool a, .bool b => a == b
  | .int k a, .int k' b => decide (k = k') && a == b
  | .str a, .str b => strEq a b
  | .ptr none, .ptr none => true
  | .ptr (some (a, b)), .ptr (some (c, d)) => Nat.beq a c && Nat.beq b d
  | .slice a n c, .slice a' n' c' => decide (a = a') && Nat.beq n n' && decide (c = c')
  | .map a, .map b => decide (a = b)
  | .nilFunc, .nilFunc => true
  | .nilIface, .nilIface => true
  | .agg a, .agg b => sameL a b
  | .tuple a, .tuple b => sameL a b
  | .func f [] c, .func g [] d => decide (f = g) && sameL c d
  | _, _ => false
  where
  sameL : List VV → List VV → Bool
    | [], [] => true
    | a :: l, b :: m => VV.same a b && sameL l m
    | _, _ => false

/-- does a reading operation come to the same in a state? -/
def stableV (P : Program) (e : Operand → VV) (op : Op) (v : VV) (S : St) : Bool :=
  match simpleV P e S op with
  | some (u, _) => VV.same u v
  | none => false

def freeV (b : Array Nat) (i j : Nat) : Bool := !befB b i j && !befB b j i

structure DrawSt where
  vals : Tr VV
  S : St
  /-- each writer of memory that is done, with the states before and behind it, the last one first -/
  done : List (Nat × St × St)
  reads : List (Nat × VV)

/-- the reading operations that are free of one hold in the state behind it -/
def readsHold (P : Program) (ops : Array Oper) (b : Array Nat) (fr : Fr) (vals : Tr VV) (i : Nat) (S : St) : List (Nat × VV) → Bool
  | [] => true
  | (q, v) :: l => (match freeV b q i with
    | true => match ops[q]? with
      | some o => stableV P (drawEv P.globals.size ops b fr vals q) o.op v S
      | none => false
    | false => true) && readsHold P ops b fr vals i S l

/-- a reading operation holds ahead of and behind those writers that are free of it -/
def holdsAt (P : Program) (e : Operand → VV) (op : Op) (v : VV) (b : Array Nat) (i : Nat) : List (Nat × St × St) → Bool
  | [] => true
  | (j, s, s') :: l => (match freeV b j i with
    | true => stableV P e op v s && stableV P e op v s'
    | false => true) && holdsAt P e op v b i l

/-- the slots behind a region -/
def drawEnd (ops : List Oper) (vals : Tr VV) (t : Tr VV) (i : Nat) : Tr VV :=
  match ops with
  | [] => t
  | o :: l => match o.dst, vals.get i with
    | some d, some v => (t.set d v).with_ fun t => drawEnd l vals t (i + 1)
    | some d, none => (t.set d .any).with_ fun t => drawEnd l vals t (i + 1)
    | none, _ => drawEnd l vals t (i + 1)

/-- the slots behind a region that a panic left -/
def drawLost (ops : List Oper) (t : Tr VV) : Tr VV :=
  match ops with
  | [] => t
  | o :: l => match o.dst with
    | some d => (t.set d .any).with_ fun t => drawLost l t
    | none => drawLost l t

/-- one operation that writes memory, or calls: its value and the state behind it, or a panic -/
def effectV (P : Program) (ov : Ov) (r : Rec) (e : Operand → VV) (op : Op) (S : St) : Option (En × St) :=
  match op with
  | .call c => match c.callee with
    | .builtin .recover => none
    | .builtin _ => match simpleV P e S op with
      | some (v, S) => some (.returned v, S)
      | none => none
    | _ => match calleeV e c with
      | none => none
      | some (fn, args) => match callV P ov r fn args S with
        | some [(x, _, S)] => some (x, S)
        | _ => none
  | .defer _ => none
  | .panic _ => none
  | .next _ _ => none
  | op => match simpleV P e S op with
    | some (v, S) => some (.returned v, S)
    | none => none

def fits (ops : List Oper) (n : Nat) : Bool := ops.all fun o => match o.dst with | some d => Nat.blt d n | none => true

def drawGo (P : Program) (ov : Ov) (r : Rec) (ops : Array Oper) (b : Array Nat) (fr : Fr) : List Nat → DrawSt → Option CodeR
  | [], s => some [(.normal, { fr with t := drawEnd ops.toList s.vals fr.t 0 }, s.S)]
  | i :: l, s => match ops[i]? with
    | none => none
    | some o => match wantedV ops o (fun d => drawLook ops b fr s.vals i d) with
      | none => none
      | some false => drawGo P ov r ops b fr l { s with vals := s.vals.set i undefV }
      | some true => match kindOf P o.op with
        | 2 => match effectV P ov r (drawEv P.globals.size ops b fr s.vals i) o.op s.S with
          | some (.returned v, S') => match readsHold P ops b fr s.vals i S' s.reads with
            | true => drawGo P ov r ops b fr l { vals := s.vals.set i v, S := S', done := (i, s.S, S') :: s.done, reads := s.reads }
            | false => none
          | some (.panicked ch, S') => match l.all (befB b i) with
            | true => some [(.panic ch, { fr with t := drawLost ops.toList fr.t }, S')]
            | false => none
          | none => none
        | _ => match simpleV P (drawEv P.globals.size ops b fr s.vals i) s.S o.op with
          | some (v, _) => match holdsAt P (drawEv P.globals.size ops b fr s.vals i) o.op v b i s.done with
            | true => drawGo P ov r ops b fr l { s with vals := s.vals.set i v, reads := (i, v) :: s.reads }
            | false => none
          | none => none

def drawV (P : Program) (ov : Ov) (r : Rec) (ops : Array Oper) (fr : Fr) (S : St) : Option CodeR :=
  match drawOk P ops && fits ops.toList fr.n with
  | true => drawGo P ov r ops (Region.before ops) fr (canonV P ops) { vals := .nil, S := S, done := [], reads := [] }
  | false => none

/- frames -/
def resultsV (P : Program) (t : Tr VV) (S : St) : List ResultVar → Option (List VV)
  | [] => some []
  | x :: l => match (match x with
      | .tmp d => t.get d
      | .cell a ty => match t.get a with
        | some (.ptr (some (id, off))) => loadVarV P S ty id off
        | _ => none), resultsV P t S l with
    | some v, some r => some (v :: r)
    | _, _ => none

def oneOf : List VV → VV
  | [v] => v
  | l => .tuple l

def takeV (S : St) (r : Nat) : Option (List VDef × St) :=
  match S.h.get r with
  | some (.deferred (some ds)) => (S.h.set r (.deferred none)).with_ fun h => some (ds, { S with h := h })
  | _ => none

/-- behind a deferred call that has returned: is the panic over? -/
def stillV (rc : Option (List VPan)) : Option (List VPan) :=
  match rc with
  | some (p :: l) => match p.recovered with
    | true => none
    | false => some (p :: l)
  | rc => rc

def raiseV (rc : Option (List VPan)) (vs : List VPan) : List VPan :=
  match rc with
  | some ch => vs ++ ch
  | none => vs

def unwV (P : Program) (r : Rec) (f : FuncId) (mode : Option (List VPan)) (fr : Fr) (S : St) : Option CallR :=
  match fr.ds with
  | [] => match mode with
    | some ch => some [(.panicked ch, fr.rc, S)]
    | none => match P.funcs[f]? with
      | some fn => match resultsV P fr.t S fn.results.toList with
        | some vs => some [(.returned (oneOf vs), fr.rc, S)]
        | none => none
      | none => none
  | d :: ds => match d with
    | .collected b => match takeV S b with
      | some (calls, S) => r.unw f mode { fr with ds := calls ++ ds } S
      | none => none
    | .fn (.func g) cap args => bindL (r.call g (args ++ cap) mode S) fun (e, rc, S) => match e with
      | .returned _ => r.unw f (stillV rc) { fr with ds := ds } S
      | .panicked vs => r.unw f (some (raiseV rc vs)) { fr with ds := ds } S
    | _ => none

/-- the frame of a call -/
def frameV (fn : Func) (args : List VV) (rc : Option (List VPan)) : Fr :=
  { t := Tr.setAll .nil 0 args, n := Nat.max fn.ntmps args.length, ds := [], rc := rc }

def callFuncV (P : Program) (r : Rec) (f : FuncId) (args : List VV) (rc : Option (List VPan)) (S : St) : Option CallR :=
  match P.funcs[f]? with
  | none => none
  | some fn => match fn.body with
    | none => none
    | some c => bindL (r.code { fn := f, round := none } c (frameV fn args rc) S) fun (x, fr, S) => match x with
      | .normal => r.unw f none fr S
      | .ret => r.unw f none fr S
      | .panic ch => r.unw f (some ch) fr S
      | .exit _ => none

def setParams (t : Tr VV) : List Tmp → List VV → Tr VV
  | d :: ds, v :: vs => (t.set d v).with_ fun t => setParams t ds vs
  | _, _ => t

def loopAt (S : St) (l : Nat) : Option VLoop :=
  match S.h.get l with
  | some (.loop lo) => some lo
  | _ => none

def putLoop (S : St) (l : Nat) (lo : VLoop) : St := { S with h := S.h.set l (.loop lo) }

def roundV (P : Program) (r : Rec) (l : Nat) (args : List VV) (S : St) : Option CallR :=
  match loopAt S l with
  | none => none
  | some lo =>
    if args.length = lo.params.length ∧ lo.params.all (fun d => Nat.blt d lo.n) then
      bindL (r.code { fn := lo.fn, round := some l } lo.assign { t := setParams lo.t lo.params args, n := lo.n, ds := [], rc := none } S) fun (x, fr, S) => match x with
        | .normal => match loopAt S l with
          | some lo' => match lo'.state with
            | .ready => bindL (r.code { fn := lo.fn, round := some l } lo.body fr (putLoop S l { lo' with state := .busy })) fun (x, fr, S) => match loopAt S l, fr.ds with
              | some lo', [] => match x with
                | .normal => some [(.returned (.bool true), none, putLoop S l { lo' with state := .ready, pending := none })]
                | .ret => some [(.returned (.bool false), none, putLoop S l { lo' with state := .done, pending := some .ret })]
                | .exit id => some [(.returned (.bool false), none, putLoop S l { lo' with state := .done, pending := some (.exit id) })]
                | .panic ch => match P.funcs[lo.fn]? with
                  | some _ => some [(.panicked ch, none, S)]
                  | none => none
              | _, _ => none
            | _ => none
          | none => none
        | _ => none
    else none

def rangeFuncV (P : Program) (ov : Ov) (r : Rec) (fi : FI) (f : Operand) (ps : List Tmp) (a b : Code) (fr : Fr) (S : St) : Option CodeR :=
  match (match fi.round with
    | none => some (S.nx, [VDef.collected S.nx], ({ h := S.h.set S.nx (.deferred (some [])), nx := S.nx + 1 } : St))
    | some l => match loopAt S l with
      | some lo => some (lo.defers, [], S)
      | none => none) with
  | none => none
  | some (ds, mark, S) =>
    let l := S.nx
    let S : St := { h := S.h.set l (.loop { state := .ready, pending := none, fn := fi.fn, t := fr.t, n := fr.n, params := ps, assign := a, body := b, defers := ds }), nx := l + 1 }
    let fr : Fr := { fr with ds := mark ++ fr.ds }
    match fr.ev P.globals.size f with
    | .func fn first captured => match yieldOk fn captured with
     | false => none
     | true => bindL (callV P ov r fn (first ++ [.func (.yield l) [] []] ++ captured) S) fun (e, _, S) => match e with
      | .returned _ => match loopAt S l with
        | some lo => match lo.state with
          | .busy => none
          | _ => match lo.pending with
            | none => some [(.normal, fr, putLoop S l { lo with state := .exhausted })]
            | some .ret => some [(.ret, fr, putLoop S l { lo with state := .exhausted })]
            | some (.exit id) => some [(.exit id, fr, putLoop S l { lo with state := .exhausted })]
            | some _ => none
        | none => none
      | .panicked ch => some [(.panic ch, fr, S)]
    | _ => none

def codeV (P : Program) (ov : Ov) (r : Rec) (fi : FI) (c : Code) (fr : Fr) (S : St) : Option CodeR :=
  match c with
  | .skip => some [(.normal, fr, S)]
  | .label _ => some [(.normal, fr, S)]
  | .region _ ops draw => match draw with
    | true => drawV P ov r ops fr S
    | false => opersV P ov r fi ops ops.toList fr S
  | .seq a b => bindL (r.code fi a fr S) fun (x, fr, S) => match x with
    | .normal => r.code fi b fr S
    | x => some [(x, fr, S)]
  | .cond c t e => match fr.ev P.globals.size c with
    | .bool true => r.code fi t fr S
    | .bool false => r.code fi e fr S
    | _ => none
  | .block id b => bindL (r.code fi b fr S) fun (x, fr, S) => match x with
    | .exit i => match Nat.beq i id with
      | true => some [(.normal, fr, S)]
      | false => some [(.exit i, fr, S)]
    | x => some [(x, fr, S)]
  | .loop b => bindL (r.code fi b fr S) fun (x, fr, S) => match x with
    | .normal => r.code fi (.loop b) fr S
    | x => some [(x, fr, S)]
  | .exit id => some [(.exit id, fr, S)]
  | .ret => some [(.ret, fr, S)]
  | .rangeFunc f ps a b => rangeFuncV P ov r fi f ps.toList a b fr S
  | _ => none

def recNone : Rec := { code := fun _ _ _ _ => none, call := fun _ _ _ _ => none, unw := fun _ _ _ _ => none, round := fun _ _ _ => none }

def stepV (P : Program) (ov : Ov) (r : Rec) : Rec :=
  { code := codeV P ov r, call := callFuncV P r, unw := unwV P r, round := roundV P r }

/-- so many levels -/
def ev (P : Program) (ov : Ov) (n : Nat) : Rec := Nat.rec recNone (fun _ r => stepV P ov r) n

@[simp] theorem ev_zero (P : Program) (ov : Ov) : ev P ov 0 = recNone := rfl
theorem ev_succ (P : Program) (ov : Ov) (n : Nat) : ev P ov (n + 1) = stepV P ov (ev P ov n) := rfl

end Go.Vm

/-
  A virtual semantics of the model's code (5): what a virtual state says of a world.
-/
namespace Go.Vm

/-- where a row of ours lies: its block, its first cell, how many cells there are from there to the block's end -/
abbrev Ren := Nat → Option (Nat × Nat × Nat)

def Ren.le (ρ ρ' : Ren) : Prop := ∀ id x, ρ id = some x → ρ' id = some x
theorem Ren.le_refl (ρ : Ren) : ρ.le ρ := fun _ _ h => h
theorem Ren.le.le_trans {ρ ρ' ρ'' : Ren} (h : ρ.le ρ') (h' : ρ'.le ρ'') : ρ.le ρ'' := fun _ _ x => h' _ _ (h _ _ x)

inductive FnRel (ρ : Ren) : Fn → Fn → Prop where
  | func (f : FuncId) : FnRel ρ (.func f) (.func f)
  | method (s : String) : FnRel ρ (.method s) (.method s)
  | methodOf (t : TypeId) (s : String) : FnRel ρ (.methodOf t s) (.methodOf t s)
  | via (t : TypeId) (path : Array FieldStep) (f : FuncId) (p : Bool) : FnRel ρ (.via t path f p) (.via t path f p)
  | yield {l r b n : Nat} (h : ρ l = some (r, b, n)) : FnRel ρ (.yield l) (.yield r)

mutual
inductive VRel (ρ : Ren) : VV → Value → Prop where
  | any (v : Value) : VRel ρ .any v
  | bool (b : Bool) : VRel ρ (.bool b) (.bool b)
  | int (k : IntKind) (n : Int) : VRel ρ (.int k n) (.int k n)
  | str (s : ByteArray) : VRel ρ (.str s.data.toList) (.string s)
  | nilPtr : VRel ρ (.ptr none) (.pointer none)
  | ptr {id r b n off : Nat} (h : ρ id = some (r, b, n)) : VRel ρ (.ptr (some (id, off))) (.pointer (some ⟨r, b + off, none⟩))
  | nilSlice (n c : Nat) : VRel ρ (.slice none n (.just c)) (.slice none n c)
  | slice {id r b n off : Nat} (len c : Nat) (h : ρ id = some (r, b, n)) : VRel ρ (.slice (some (id, off)) len (.just c)) (.slice (some ⟨r, b + off, none⟩) len c)
  | rest {id r b n off : Nat} (len c z : Nat) (h : ρ id = some (r, b, n)) (hc : off + c * z = n) (hl : len ≤ c) :
      VRel ρ (.slice (some (id, off)) len (.rest z)) (.slice (some ⟨r, b + off, none⟩) len c)
  | restEnd {id r b n off : Nat} (off' z : Nat) (h : ρ id = some (r, b, n)) : VRel ρ (.slice (some (id, off)) 0 (.rest z)) (.slice (some ⟨r, off', none⟩) 0 0)
  | sliceEnd {id r b n off : Nat} (off' : Nat) (h : ρ id = some (r, b, n)) : VRel ρ (.slice (some (id, off)) 0 (.just 0)) (.slice (some ⟨r, off', none⟩) 0 0)
  | nilMap : VRel ρ (.map none) (.map none)
  | map {id r b n : Nat} (h : ρ id = some (r, b, n)) : VRel ρ (.map (some id)) (.map (some r))
  | func {fn fn' : Fn} {f c : List VV} {f' c' : Array Value} (hf : FnRel ρ fn fn') (h1 : VRels ρ f f'.toList) (h2 : VRels ρ c c'.toList) : VRel ρ (.func fn f c) (.func fn' f' c')
  | nilFunc : VRel ρ .nilFunc .nilFunc
  | iface (t : TypeId) {v : VV} {v' : Value} (h : VRel ρ v v') : VRel ρ (.iface t v) (.iface t v')
  | nilIface : VRel ρ .nilIface .nilIface
  | agg {cs : List VV} {cs' : Array Value} (h : VRels ρ cs cs'.toList) : VRel ρ (.agg cs) (.agg cs')
  | tuple {cs : List VV} {cs' : Array Value} (h : VRels ρ cs cs'.toList) : VRel ρ (.tuple cs) (.tuple cs')
inductive VRels (ρ : Ren) : List VV → List Value → Prop where
  | nil : VRels ρ [] []
  | cons {v : VV} {v' : Value} {l : List VV} {l' : List Value} (h : VRel ρ v v') (t : VRels ρ l l') : VRels ρ (v :: l) (v' :: l')
end

theorem FnRel.mono {ρ ρ' : Ren} (hρ : ρ.le ρ') {f f' : Fn} (h : FnRel ρ f f') : FnRel ρ' f f' := by
  cases h with
  | func => exact .func _
  | method => exact .method _
  | methodOf => exact .methodOf _ _
  | via => exact .via _ _ _ _
  | yield h => exact .yield (hρ _ _ h)

mutual
theorem VRel.mono {ρ ρ' : Ren} (hρ : ρ.le ρ') {v : VV} {v' : Value} (h : VRel ρ v v') : VRel ρ' v v' := by
  cases h with
  | any => exact .any _
  | bool => exact .bool _
  | int => exact .int _ _
  | str => exact .str _
  | nilPtr => exact .nilPtr
  | ptr h => exact .ptr (hρ _ _ h)
  | nilSlice => exact .nilSlice _ _
  | slice _ _ h => exact .slice _ _ (hρ _ _ h)
  | rest _ _ _ h hc hl => exact .rest _ _ _ (hρ _ _ h) hc hl
  | restEnd _ _ h => exact .restEnd _ _ (hρ _ _ h)
  | sliceEnd _ h => exact .sliceEnd _ (hρ _ _ h)
  | nilMap => exact .nilMap
  | map h => exact .map (hρ _ _ h)
  | func hf h1 h2 => exact .func (hf.mono hρ) (VRels.mono hρ h1) (VRels.mono hρ h2)
  | nilFunc => exact .nilFunc
  | iface _ h => exact .iface _ (VRel.mono hρ h)
  | nilIface => exact .nilIface
  | agg h => exact .agg (VRels.mono hρ h)
  | tuple h => exact .tuple (VRels.mono hρ h)
theorem VRels.mono {ρ ρ' : Ren} (hρ : ρ.le ρ') {v : List VV} {v' : List Value} (h : VRels ρ v v') : VRels ρ' v v' := by
  cases h with
  | nil => exact .nil
  | cons h t => exact .cons (VRel.mono hρ h) (VRels.mono hρ t)
end

theorem VRels.length {ρ : Ren} : ∀ {l : List VV} {l' : List Value}, VRels ρ l l' → l'.length = l.length
  | _, _, .nil => rfl
  | _, _, .cons _ t => by simp [VRels.length t]

theorem VRels.get {ρ : Ren} : ∀ {l : List VV} {l' : List Value}, VRels ρ l l' → ∀ {i : Nat} {v : VV}, l[i]? = some v → ∃ v', l'[i]? = some v' ∧ VRel ρ v v'
  | _, _, .nil, i, v, h => by simp at h
  | _, _, .cons h t, 0, v, hv => by simp at hv; subst hv; exact ⟨_, rfl, h⟩
  | _, _, .cons h t, i + 1, v, hv => by simp at hv; simpa using VRels.get t hv

theorem VRels.append {ρ : Ren} : ∀ {l : List VV} {l' : List Value} {m : List VV} {m' : List Value}, VRels ρ l l' → VRels ρ m m' → VRels ρ (l ++ m) (l' ++ m')
  | _, _, _, _, .nil, h => h
  | _, _, _, _, .cons h t, h' => .cons h (VRels.append t h')

theorem VRels.drop {ρ : Ren} : ∀ {l : List VV} {l' : List Value}, VRels ρ l l' → ∀ n, VRels ρ (l.drop n) (l'.drop n)
  | _, _, .nil, n => by simp; exact .nil
  | _, _, .cons h t, 0 => .cons h t
  | _, _, .cons h t, n + 1 => by simpa using VRels.drop t n

theorem VRels.take {ρ : Ren} : ∀ {l : List VV} {l' : List Value}, VRels ρ l l' → ∀ n, VRels ρ (l.take n) (l'.take n)
  | _, _, .nil, n => by simp; exact .nil
  | _, _, .cons h t, 0 => by simp; exact .nil
  | _, _, .cons h t, n + 1 => by simpa using .cons h (VRels.take t n)

theorem VRels.map {ρ : Ren} {α : Type} {f : α → VV} {g : α → Value} (l : List α) (h : ∀ a ∈ l, VRel ρ (f a) (g a)) : VRels ρ (l.map f) (l.map g) := by
  induction l with
  | nil => exact .nil
  | cons a l ih => exact .cons (h a (by simp)) (ih fun b hb => h b (by simp [hb]))

theorem VRels.of_get {ρ : Ren} : ∀ {l : List VV} {l' : List Value}, l'.length = l.length → (∀ (i : Nat) (v : VV) (v' : Value), l[i]? = some v → l'[i]? = some v' → VRel ρ v v') → VRels ρ l l'
  | [], [], _, _ => .nil
  | [], _ :: _, h, _ => by simp at h
  | _ :: _, [], h, _ => by simp at h
  | v :: l, v' :: l', h, hh => .cons (hh 0 v v' rfl rfl) (VRels.of_get (by simpa using h) fun i a b ha hb => hh (i + 1) a b (by simpa using ha) (by simpa using hb))

/-- the constants -/
theorem ofValue_rel (ρ : Ren) : ∀ v : Value, VRel ρ (VV.ofValue v) v := by
  intro v
  exact Value.rec (motive_1 := fun v => VRel ρ (VV.ofValue v) v) (motive_2 := fun a => VRels ρ (VV.ofValues a.toList) a.toList) (motive_3 := fun l => VRels ρ (VV.ofValues l) l)
    (fun b => by simp only [VV.ofValue]; exact .bool b) (fun k n => by simp only [VV.ofValue]; exact .int k n) (fun _ _ => by simp only [VV.ofValue]; exact .any _) (fun _ _ _ => by simp only [VV.ofValue]; exact .any _)
    (fun s => by simp only [VV.ofValue]; exact .str s) (fun a => by cases a <;> simp only [VV.ofValue] <;> first | exact .nilPtr | exact .any _)
    (fun a n c => by cases a <;> simp only [VV.ofValue] <;> first | exact .nilSlice _ _ | exact .any _) (fun r => by cases r <;> simp only [VV.ofValue] <;> first | exact .nilMap | exact .any _)
    (fun _ => by simp only [VV.ofValue]; exact .any _) (fun _ _ _ _ _ => by simp only [VV.ofValue]; exact .any _) (by simp only [VV.ofValue]; exact .nilFunc) (fun _ _ _ => by simp only [VV.ofValue]; exact .any _)
    (by simp only [VV.ofValue]; exact .nilIface) (fun a h => by cases a; simp only [VV.ofValue]; exact .agg h) (fun a h => by cases a; simp only [VV.ofValue]; exact .tuple h)
    (fun l h => h) (by simp only [VV.ofValues]; exact .nil) (fun v l hv hl => by simp only [VV.ofValues]; exact .cons hv hl) v

/- slots -/
def TRel (ρ : Ren) (t : Tr VV) (n : Nat) (tmps : Array Value) : Prop := tmps.size = n ∧ ∀ i v, t.get i = some v → VRel ρ v (tmps.getD i undef)

theorem TRel.mono {ρ ρ' : Ren} (hρ : ρ.le ρ') {t : Tr VV} {n : Nat} {tmps : Array Value} (h : TRel ρ t n tmps) : TRel ρ' t n tmps :=
  ⟨h.1, fun i v hv => (h.2 i v hv).mono hρ⟩

inductive DRel (ρ : Ren) : VDef → Deferred → Prop where
  | fn {fn fn' : Fn} {c a : List VV} {c' a' : Array Value} (hf : FnRel ρ fn fn') (h1 : VRels ρ c c'.toList) (h2 : VRels ρ a a'.toList) : DRel ρ (.fn fn c a) { target := .fn fn' c', args := a' }
  | collected {l r b n : Nat} (h : ρ l = some (r, b, n)) : DRel ρ (.collected l) { target := .collected r, args := #[] }

theorem DRel.mono {ρ ρ' : Ren} (hρ : ρ.le ρ') {d : VDef} {d' : Deferred} (h : DRel ρ d d') : DRel ρ' d d' := by
  cases h with
  | fn hf h1 h2 => exact .fn (hf.mono hρ) (h1.mono hρ) (h2.mono hρ)
  | collected h => exact .collected (hρ _ _ h)

inductive DRels (ρ : Ren) : List VDef → List Deferred → Prop where
  | nil : DRels ρ [] []
  | cons {d : VDef} {d' : Deferred} {l : List VDef} {l' : List Deferred} (h : DRel ρ d d') (t : DRels ρ l l') : DRels ρ (d :: l) (d' :: l')

theorem DRels.mono {ρ ρ' : Ren} (hρ : ρ.le ρ') : ∀ {l : List VDef} {l' : List Deferred}, DRels ρ l l' → DRels ρ' l l'
  | _, _, .nil => .nil
  | _, _, .cons h t => .cons (h.mono hρ) (DRels.mono hρ t)
theorem DRels.append {ρ : Ren} : ∀ {l : List VDef} {l' : List Deferred} {m : List VDef} {m' : List Deferred}, DRels ρ l l' → DRels ρ m m' → DRels ρ (l ++ m) (l' ++ m')
  | _, _, _, _, .nil, h => h
  | _, _, _, _, .cons h t, h' => .cons h (DRels.append t h')

inductive ERels (ρ : Ren) : List (VV × VV × Nat) → List MapEntry → Prop where
  | nil : ERels ρ [] []
  | cons {k v : VV} {k' v' : Value} {b : Nat} {l : List (VV × VV × Nat)} {l' : List MapEntry} (hk : VRel ρ k k') (hv : VRel ρ v v') (t : ERels ρ l l') :
      ERels ρ ((k, v, b) :: l) ({ key := k', val := v', born := b } :: l')

theorem ERels.mono {ρ ρ' : Ren} (hρ : ρ.le ρ') : ∀ {l : List (VV × VV × Nat)} {l' : List MapEntry}, ERels ρ l l' → ERels ρ' l l'
  | _, _, .nil => .nil
  | _, _, .cons hk hv t => .cons (hk.mono hρ) (hv.mono hρ) (ERels.mono hρ t)

structure LoopRel (ρ : Ren) (l : VLoop) (l' : Loop) : Prop where
  state : l'.state = l.state
  pending : l'.pending = l.pending
  fn : l'.fn = l.fn
  tmps : TRel ρ l.t l.n l'.tmps
  params : l'.params.toList = l.params
  assign : l'.assign = l.assign
  body : l'.body = l.body
  defers : ∃ b n, ρ l.defers = some (l'.defers, b, n)

/-- an object of ours and the model's, of which it takes the n cells from b on -/
inductive ORel (ρ : Ren) (b n : Nat) : VObj → Obj → Prop where
  | cells {c : Tr VV} {m : Nat} {t t' : TypeId} {ro mk : Bool} {cs : Array Value} {fr : Nat × Nat} (hsize : cs.size = b + n) (hm : m ≤ n)
      (hlow : ∀ i v, c.get i = some v → i < m) (hget : ∀ i v, c.get i = some v → ∃ v', cs[b + i]? = some v' ∧ VRel ρ v v')
      (hro : ro = false → fr.1 = fr.2 ∨ fr = (b + n, b + n + 1)) (hmk : mk = false → fr.1 = fr.2) : ORel ρ b n (.cells c m t ro mk) (.cells cs t' fr)
  | map {es : List (VV × VV × Nat)} {es' : Array MapEntry} {clock : Nat} (h : ERels ρ es es'.toList) : ORel ρ b n (.map es clock) (.map es' clock)
  | strIter (hb : b = 0) (s : ByteArray) (pos : Nat) : ORel ρ b n (.strIter s.data.toList pos) (.stringIter s pos)
  | mapIterNil (hb : b = 0) (since stepped : Nat) (seen : Array Nat) : ORel ρ b n (.mapIter none since seen.toList stepped) (.mapIter none since seen stepped)
  | mapIter {m r b' n' : Nat} (hb : b = 0) (since stepped : Nat) (seen : Array Nat) (h : ρ m = some (r, b', n')) : ORel ρ b n (.mapIter (some m) since seen.toList stepped) (.mapIter (some r) since seen stepped)
  | loop {l : VLoop} {l' : Loop} (h : LoopRel ρ l l') : ORel ρ b n (.loop l) (.loop l')
  | taken : ORel ρ b n (.deferred none) (.deferred none)
  | deferred {ds : List VDef} {ds' : List Deferred} (h : DRels ρ ds ds') : ORel ρ b n (.deferred (some ds)) (.deferred (some ds'))

theorem ORel.mono {ρ ρ' : Ren} (hρ : ρ.le ρ') {b n : Nat} {o : VObj} {o' : Obj} (h : ORel ρ b n o o') : ORel ρ' b n o o' := by
  cases h with
  | cells h1 h2 h3 h4 h5 h6 => exact .cells h1 h2 h3 (fun i v hv => let ⟨v', a, r⟩ := h4 i v hv; ⟨v', a, r.mono hρ⟩) h5 h6
  | map h => exact .map (h.mono hρ)
  | strIter hb => exact .strIter hb _ _
  | mapIterNil hb => exact .mapIterNil hb _ _ _
  | mapIter hb _ _ _ h => exact .mapIter hb _ _ _ (hρ _ _ h)
  | loop h => exact .loop ⟨h.state, h.pending, h.fn, h.tmps.mono hρ, h.params, h.assign, h.body, let ⟨b, n, h⟩ := h.defers; ⟨b, n, hρ _ _ h⟩⟩
  | taken => exact .taken
  | deferred h => exact .deferred (h.mono hρ)

def VObj.ro : VObj → Bool
  | .cells _ _ _ ro _ => ro
  | _ => false

structure Sim (G : Nat) (ρ : Ren) (S : St) (w : World) : Prop where
  obj : ∀ id o, S.h.get id = some o → ∃ r b n o', ρ id = some (r, b, n) ∧ w.heap[r]? = some o' ∧ ORel ρ b n o o'
  inj : ∀ i j oi oj r b n b' n', S.h.get i = some oi → S.h.get j = some oj → ρ i = some (r, b, n) → ρ j = some (r, b', n') → i = j
  fresh : ∀ id, S.nx ≤ id → ρ id = none
  low : ∀ id r b n, ρ id = some (r, b, n) → r < w.heap.size
  glob : ∀ g, g < G → ∃ n, ρ g = some (g, 0, n)

/-- the blocks that may be written -/
def WL (ρ : Ren) (S : St) (r : Nat) : Prop := ∃ id o b n, S.h.get id = some o ∧ o.ro = false ∧ ρ id = some (r, b, n)

/-- the blocks that lie in a state -/
def DL (ρ : Ren) (S : St) (r : Nat) : Prop := ∃ id o b n, S.h.get id = some o ∧ ρ id = some (r, b, n)

structure Goes (G : Nat) (ρ : Ren) (S : St) (w : World) (ρ' : Ren) (S' : St) (w' : World) : Prop where
  ext : ρ.le ρ'
  sim : Sim G ρ' S' w'
  size : w.heap.size ≤ w'.heap.size
  output : w'.output = w.output
  os : w'.os = w.os
  keep : ∀ r, r < w.heap.size → ¬ WL ρ S r → w'.heap[r]? = w.heap[r]?
  wl : ∀ r, r < w.heap.size → WL ρ' S' r → WL ρ S r
  dom : ∀ r, r < w.heap.size → DL ρ' S' r → DL ρ S r

theorem Goes.refl {G : Nat} {ρ : Ren} {S : St} {w : World} (h : Sim G ρ S w) : Goes G ρ S w ρ S w :=
  ⟨ρ.le_refl, h, Nat.le_refl _, rfl, rfl, fun _ _ _ => rfl, fun _ _ h => h, fun _ _ h => h⟩

theorem Goes.trans {G : Nat} {ρ ρ' ρ'' : Ren} {S S' S'' : St} {w w' w'' : World} (h : Goes G ρ S w ρ' S' w') (h' : Goes G ρ' S' w' ρ'' S'' w'') : Goes G ρ S w ρ'' S'' w'' where
  ext := h.ext.le_trans h'.ext
  sim := h'.sim
  size := Nat.le_trans h.size h'.size
  output := h'.output.trans h.output
  os := h'.os.trans h.os
  keep r hr hw := by
    rw [h'.keep r (Nat.lt_of_lt_of_le hr h.size) (fun hx => hw (h.wl r hr hx)), h.keep r hr hw]
  wl r hr hx := h.wl r hr (h'.wl r (Nat.lt_of_lt_of_le hr h.size) hx)
  dom r hr hx := h.dom r hr (h'.dom r (Nat.lt_of_lt_of_le hr h.size) hx)

end Go.Vm

/-
  A virtual semantics of the model's code (6): one object is changed, made, dropped.
-/
namespace Go.Vm

theorem evO_rel {G : Nat} {ρ : Ren} {S : St} {w : World} (hS : Sim G ρ S w) {look : Tmp → Option VV} {a : Act} (h : ∀ t v, look t = some v → VRel ρ v (a.tmps.getD t undef)) (x : Operand) :
    VRel ρ (evO G look x) (a.eval x) := by
  cases x with
  | tmp t =>
    simp only [evO, Act.eval]
    cases hl : look t with
    | none => exact .any _
    | some v => exact h t v hl
  | const v => exact ofValue_rel ρ v
  | global g =>
    simp only [evO, Act.eval]
    cases hg : Nat.blt g G with
    | false => exact .any _
    | true =>
      obtain ⟨n, hn⟩ := hS.glob g (by simpa [Nat.blt_eq] using hg)
      exact .ptr (b := 0) (off := 0) hn
  | func f => exact .func (.func f) .nil .nil

theorem getElem?_setIfInBounds {α : Type} (a : Array α) (i j : Nat) (v : α) : (a.setIfInBounds i v)[j]? = if i = j ∧ i < a.size then some v else a[j]? := by
  rw [Array.getElem?_setIfInBounds]
  by_cases h : i = j
  · subst h
    by_cases h2 : i < a.size
    · simp [h2]
    · simp [h2]
  · simp [h]

def World.put (w : World) (r : Nat) (o : Obj) : World := { w with heap := w.heap.setIfInBounds r o }
def World.add (w : World) (o : Obj) : World := { w with heap := w.heap.push o }

theorem put_heap (w : World) (r j : Nat) (o : Obj) (hr : r < w.heap.size) : (World.put w r o).heap[j]? = if r = j then some o else w.heap[j]? := by
  simp only [World.put, getElem?_setIfInBounds]
  by_cases h : r = j
  · subst h; simp [hr]
  · simp [h]

theorem add_heap (w : World) (j : Nat) (o : Obj) : (World.add w o).heap[j]? = if j = w.heap.size then some o else w.heap[j]? := by
  simp only [World.add, Array.getElem?_push]

def Ren.add (ρ : Ren) (id : Nat) (x : Nat × Nat × Nat) : Ren := fun j => if j = id then some x else ρ j

theorem Ren.le_add {ρ : Ren} {id : Nat} {x : Nat × Nat × Nat} (h : ρ id = none) : ρ.le (ρ.add id x) := by
  intro j y hj
  simp only [Ren.add]
  by_cases e : j = id
  · subst e; rw [h] at hj; cases hj
  · simp [e, hj]

/-- the same heap -/
theorem Goes.same {G : Nat} {ρ : Ren} {S : St} {w w' : World} (hS : Sim G ρ S w) (hh : w'.heap = w.heap) (ho : w'.output = w.output) (hs : w'.os = w.os) : Goes G ρ S w ρ S w' where
  ext := ρ.le_refl
  sim := ⟨fun id o h => by rw [hh]; exact hS.obj id o h, hS.inj, hS.fresh, fun id r b n h => by rw [hh]; exact hS.low id r b n h, hS.glob⟩
  size := by rw [hh]; exact Nat.le_refl _
  output := ho
  os := hs
  keep r _ _ := by rw [hh]
  wl _ _ h := h
  dom _ _ h := h

/-- an object is changed -/
theorem Goes.update {G : Nat} {ρ : Ren} {S : St} {w : World} (hS : Sim G ρ S w) {id r b n : Nat} {o onew : VObj} {onew' : Obj} (hid : S.h.get id = some o) (hro : o.ro = false) (hρ : ρ id = some (r, b, n))
    (ho : ORel ρ b n onew onew') : Goes G ρ S w ρ { S with h := S.h.set id onew } (World.put w r onew') where
  ext := ρ.le_refl
  sim := {
    obj := by
      intro j oj hj
      have hr := hS.low id r b n hρ
      simp only [Tr.get_set] at hj
      by_cases e : j = id
      · subst e
        simp only [if_true, Option.some.injEq] at hj
        subst hj
        exact ⟨r, b, n, onew', hρ, by rw [put_heap _ _ _ _ hr]; simp, ho⟩
      · simp only [e, if_false] at hj
        obtain ⟨rj, bj, nj, oj', h1, h2, h3⟩ := hS.obj j oj hj
        refine ⟨rj, bj, nj, oj', h1, ?_, h3⟩
        rw [put_heap _ _ _ _ hr, if_neg, h2]
        rintro rfl
        exact e (hS.inj j id oj o r bj nj b n hj hid h1 hρ)
    inj := by
      intro i j oi oj q bi ni bj nj hi hj h1 h2
      simp only [Tr.get_set] at hi hj
      have hx : ∀ k ok, (if k = id then some onew else S.h.get k) = some ok → ∃ ok', S.h.get k = some ok' := by
        intro k ok hk
        by_cases e : k = id
        · subst e; exact ⟨o, hid⟩
        · simp only [e, if_false] at hk; exact ⟨ok, hk⟩
      obtain ⟨oi', hi'⟩ := hx i oi hi
      obtain ⟨oj', hj'⟩ := hx j oj hj
      exact hS.inj i j oi' oj' q bi ni bj nj hi' hj' h1 h2
    fresh := hS.fresh
    low := fun i q b n h => by simpa [World.put] using hS.low i q b n h
    glob := hS.glob }
  size := by simp [World.put]
  output := rfl
  os := rfl
  keep q hq hw := by
    rw [put_heap _ _ _ _ (hS.low id r b n hρ), if_neg]
    rintro rfl
    exact hw ⟨id, o, b, n, hid, hro, hρ⟩
  wl := by
    rintro q _ ⟨j, oj, bj, nj, hj, hroj, hρj⟩
    simp only [Tr.get_set] at hj
    by_cases e : j = id
    · subst e
      rw [hρ] at hρj
      cases hρj
      exact ⟨j, o, b, n, hid, hro, hρ⟩
    · simp only [e, if_false] at hj
      exact ⟨j, oj, bj, nj, hj, hroj, hρj⟩
  dom := by
    rintro q _ ⟨j, oj, bj, nj, hj, hρj⟩
    simp only [Tr.get_set] at hj
    by_cases e : j = id
    · subst e
      rw [hρ] at hρj
      cases hρj
      exact ⟨j, o, b, n, hid, hρ⟩
    · simp only [e, if_false] at hj
      exact ⟨j, oj, bj, nj, hj, hρj⟩

/-- an object is made -/
theorem Goes.alloc {G : Nat} {ρ : Ren} {S : St} {w : World} (hS : Sim G ρ S w) (n : Nat) (o : VObj) (o' : Obj) (ho : ∀ ρ' : Ren, ρ.le ρ' → ORel ρ' 0 n o o') :
    Goes G ρ S w (ρ.add S.nx (w.heap.size, 0, n)) { h := S.h.set S.nx o, nx := S.nx + 1 } (World.add w o') := by
  have hle : ρ.le (ρ.add S.nx (w.heap.size, 0, n)) := Ren.le_add (hS.fresh _ (Nat.le_refl _))
  have hne : ∀ j oj, S.h.get j = some oj → j ≠ S.nx := by
    rintro j oj hj rfl
    obtain ⟨r, b, m, o', h, _⟩ := hS.obj _ _ hj
    rw [hS.fresh _ (Nat.le_refl _)] at h
    cases h
  refine ⟨hle, ⟨?_, ?_, ?_, ?_, ?_⟩, by simp [World.add], rfl, rfl, ?_, ?_, ?_⟩
  · intro j oj hj
    simp only [Tr.get_set] at hj
    by_cases e : j = S.nx
    · subst e
      simp only [if_true, Option.some.injEq] at hj
      subst hj
      exact ⟨w.heap.size, 0, n, o', by simp [Ren.add], by rw [add_heap]; simp, ho _ hle⟩
    · simp only [e, if_false] at hj
      obtain ⟨r, b, m, oj', h1, h2, h3⟩ := hS.obj j oj hj
      refine ⟨r, b, m, oj', hle _ _ h1, ?_, h3.mono hle⟩
      rw [add_heap, if_neg, h2]
      have := hS.low j r b m h1
      omega
  · intro i j oi oj q bi ni bj nj hi hj h1 h2
    simp only [Tr.get_set] at hi hj
    simp only [Ren.add] at h1 h2
    by_cases ei : i = S.nx <;> by_cases ej : j = S.nx
    · rw [ei, ej]
    · simp only [ei, if_true, Option.some.injEq, Prod.mk.injEq] at h1
      simp only [ej, if_false] at h2
      have := hS.low j q bj nj h2
      omega
    · simp only [ej, if_true, Option.some.injEq, Prod.mk.injEq] at h2
      simp only [ei, if_false] at h1
      have := hS.low i q bi ni h1
      omega
    · simp only [ei, ej, if_false] at h1 h2 hi hj
      exact hS.inj i j oi oj q bi ni bj nj hi hj h1 h2
  · intro id hid
    simp only at hid
    simp only [Ren.add]
    rw [if_neg (by omega)]
    exact hS.fresh id (by omega)
  · intro id r b m h
    simp only [Ren.add] at h
    simp only [World.add, Array.size_push]
    by_cases e : id = S.nx
    · simp only [e, if_true, Option.some.injEq, Prod.mk.injEq] at h
      omega
    · simp only [e, if_false] at h
      have := hS.low id r b m h
      omega
  · intro g hg
    obtain ⟨m, hm⟩ := hS.glob g hg
    exact ⟨m, hle _ _ hm⟩
  · intro r hr _
    rw [add_heap, if_neg (by omega)]
  · rintro r hr ⟨j, oj, bj, nj, hj, hroj, hρj⟩
    simp only [Tr.get_set] at hj
    simp only [Ren.add] at hρj
    by_cases e : j = S.nx
    · simp only [e, if_true, Option.some.injEq, Prod.mk.injEq] at hρj
      omega
    · simp only [e, if_false] at hj hρj
      exact ⟨j, oj, bj, nj, hj, hroj, hρj⟩
  · rintro r hr ⟨j, oj, bj, nj, hj, hρj⟩
    simp only [Tr.get_set] at hj
    simp only [Ren.add] at hρj
    by_cases e : j = S.nx
    · simp only [e, if_true, Option.some.injEq, Prod.mk.injEq] at hρj
      omega
    · simp only [e, if_false] at hj hρj
      exact ⟨j, oj, bj, nj, hj, hρj⟩

/-- an object is forgotten -/
theorem Goes.drop {G : Nat} {ρ : Ren} {S : St} {w : World} (hS : Sim G ρ S w) (id : Nat) : Goes G ρ S w ρ { S with h := S.h.del id } w where
  ext := ρ.le_refl
  sim := by
    have hx : ∀ j oj, ({ S with h := S.h.del id } : St).h.get j = some oj → S.h.get j = some oj := by
      intro j oj hj
      simp only [Tr.get_del] at hj
      by_cases e : j = id
      · simp [e] at hj
      · simpa [e] using hj
    exact ⟨fun j oj hj => hS.obj j oj (hx j oj hj), fun i j oi oj q bi ni bj nj hi hj h1 h2 => hS.inj i j oi oj q bi ni bj nj (hx i oi hi) (hx j oj hj) h1 h2, hS.fresh, hS.low, hS.glob⟩
  size := Nat.le_refl _
  output := rfl
  os := rfl
  keep _ _ _ := rfl
  wl := by
    rintro q _ ⟨j, oj, bj, nj, hj, hroj, hρj⟩
    simp only [Tr.get_del] at hj
    by_cases e : j = id
    · simp [e] at hj
    · simp only [e, if_false] at hj
      exact ⟨j, oj, bj, nj, hj, hroj, hρj⟩
  dom := by
    rintro q _ ⟨j, oj, bj, nj, hj, hρj⟩
    simp only [Tr.get_del] at hj
    by_cases e : j = id
    · simp [e] at hj
    · simp only [e, if_false] at hj
      exact ⟨j, oj, bj, nj, hj, hρj⟩

/-- an object is forgotten, and its cells, from somewhere on, are another one's -/
theorem Goes.become {G : Nat} {ρ : Ren} {S : St} {w : World} (hS : Sim G ρ S w) {id r b n b' n' : Nat} {o onew : VObj} {onew' : Obj} (hid : S.h.get id = some o) (hro : o.ro = false) (hρ : ρ id = some (r, b, n))
    (ho : ∀ ρ' : Ren, ρ.le ρ' → ORel ρ' b' n' onew onew') :
    Goes G ρ S w (ρ.add S.nx (r, b', n')) { h := (S.h.del id).set S.nx onew, nx := S.nx + 1 } (World.put w r onew') := by
  have hle : ρ.le (ρ.add S.nx (r, b', n')) := Ren.le_add (hS.fresh _ (Nat.le_refl _))
  have hr := hS.low id r b n hρ
  have hne : ∀ j oj, S.h.get j = some oj → j ≠ S.nx := by
    rintro j oj hj rfl
    obtain ⟨r, b, m, o', h, _⟩ := hS.obj _ _ hj
    rw [hS.fresh _ (Nat.le_refl _)] at h
    cases h
  have hx : ∀ j oj, ((S.h.del id).set S.nx onew).get j = some oj → (j = S.nx ∧ oj = onew) ∨ (j ≠ S.nx ∧ j ≠ id ∧ S.h.get j = some oj) := by
    intro j oj hj
    simp only [Tr.get_set, Tr.get_del] at hj
    by_cases e : j = S.nx
    · simp only [e, if_true, Option.some.injEq] at hj; exact .inl ⟨e, hj.symm⟩
    · by_cases e2 : j = id
      · simp [e, e2] at hj
        obtain ⟨h1, h2⟩ := hj
        exact absurd (e2.trans h1) e
      · simp only [e, e2, if_false] at hj
        exact .inr ⟨e, e2, hj⟩
  refine ⟨hle, ⟨?_, ?_, ?_, ?_, ?_⟩, by simp [World.put], rfl, rfl, ?_, ?_, ?_⟩
  · intro j oj hj
    rcases hx j oj hj with ⟨rfl, rfl⟩ | ⟨e1, e2, h0⟩
    · exact ⟨r, b', n', onew', by simp [Ren.add], by rw [put_heap _ _ _ _ hr]; simp, ho _ hle⟩
    · obtain ⟨q, bj, nj, oj', h1, h2, h3⟩ := hS.obj j oj h0
      refine ⟨q, bj, nj, oj', hle _ _ h1, ?_, h3.mono hle⟩
      rw [put_heap _ _ _ _ hr, if_neg, h2]
      rintro rfl
      exact e2 (hS.inj j id oj o r bj nj b n h0 hid h1 hρ)
  · intro i j oi oj q bi ni bj nj hi hj h1 h2
    simp only [Ren.add] at h1 h2
    rcases hx i oi hi with ⟨rfl, rfl⟩ | ⟨ei1, ei2, hi0⟩ <;> rcases hx j oj hj with ⟨rfl, rfl⟩ | ⟨ej1, ej2, hj0⟩
    · rfl
    · simp only [if_true, Option.some.injEq, Prod.mk.injEq] at h1
      simp only [ej1, if_false] at h2
      obtain ⟨rfl, _⟩ := h1
      exact absurd (hS.inj j id oj o r bj nj b n hj0 hid h2 hρ) ej2
    · simp only [if_true, Option.some.injEq, Prod.mk.injEq] at h2
      simp only [ei1, if_false] at h1
      obtain ⟨rfl, _⟩ := h2
      exact absurd (hS.inj i id oi o r bi ni b n hi0 hid h1 hρ) ei2
    · simp only [ei1, ej1, if_false] at h1 h2
      exact hS.inj i j oi oj q bi ni bj nj hi0 hj0 h1 h2
  · intro k hk
    simp only at hk
    simp only [Ren.add]
    rw [if_neg (by omega)]
    exact hS.fresh k (by omega)
  · intro k q bk m h
    simp only [Ren.add] at h
    simp only [World.put, Array.size_setIfInBounds]
    by_cases e : k = S.nx
    · simp only [e, if_true, Option.some.injEq, Prod.mk.injEq] at h
      omega
    · simp only [e, if_false] at h
      exact hS.low k q bk m h
  · intro g hg
    obtain ⟨m, hm⟩ := hS.glob g hg
    exact ⟨m, hle _ _ hm⟩
  · intro q hq hw
    rw [put_heap _ _ _ _ hr, if_neg]
    rintro rfl
    exact hw ⟨id, o, b, n, hid, hro, hρ⟩
  · rintro q hq ⟨j, oj, bj, nj, hj, hroj, hρj⟩
    simp only [Ren.add] at hρj
    rcases hx j oj hj with ⟨rfl, rfl⟩ | ⟨e1, e2, h0⟩
    · simp only [if_true, Option.some.injEq, Prod.mk.injEq] at hρj
      obtain ⟨rfl, _⟩ := hρj
      exact ⟨id, o, b, n, hid, hro, hρ⟩
    · simp only [e1, if_false] at hρj
      exact ⟨j, oj, bj, nj, h0, hroj, hρj⟩
  · rintro q hq ⟨j, oj, bj, nj, hj, hρj⟩
    simp only [Ren.add] at hρj
    rcases hx j oj hj with ⟨rfl, rfl⟩ | ⟨e1, e2, h0⟩
    · simp only [if_true, Option.some.injEq, Prod.mk.injEq] at hρj
      obtain ⟨rfl, _⟩ := hρj
      exact ⟨id, o, b, n, hid, hρ⟩
    · simp only [e1, if_false] at hρj
      exact ⟨j, oj, bj, nj, h0, hρj⟩

end Go.Vm
