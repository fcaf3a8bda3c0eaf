/-
  A virtual semantics of the model's code (3): each operation that calls nothing.
-/
import Derived.Test.YtgdpedfahfmjeaaGreatDoorVmB
namespace Go.Vm

/-- the cells that a value takes, of one that is known -/
def cellsV : VV → Option (List VV)
  | .any => none
  | .agg cs => some cs
  | v => some [v]

def fillV (place : Nat → Option (Nat × Nat)) (cells : List VV) : List (Nat × VV) → Option (List VV)
  | [] => some cells
  | (i, v) :: rest =>
    match place i, cellsV v with
    | some (off, size), some cs =>
      if cs.length = size ∧ off + cs.length ≤ cells.length then
        fillV place (cells.take off ++ (cs ++ cells.drop (off + cs.length))) rest
      else none
    | _, _ => none

def placesV (P : Program) : List Field → Option (List (Nat × Nat))
  | [] => some []
  | f :: fs => match sizeV P f.type, placesV P fs with
    | some n, some l => some ((f.offset, n) :: l)
    | _, _ => none

def buildV (P : Program) (t : TypeId) (parts : List (Nat × VV)) : Option VV :=
  match zeroV P t with
  | none => none
  | some z => match cellsV z with
    | none => none
    | some zero => match P.underlying t with
      | some (.struct fields) => match placesV P fields.toList with
        | none => none
        | some places => match fillV (places[·]?) zero parts with
          | some cs => some (.agg cs)
          | none => none
      | some (.array _ e) => match sizeV P e with
        | none => none
        | some size => match fillV (fun i => some (i * size, size)) zero parts with
          | some cs => some (.agg cs)
          | none => none
      | _ => none

/-- n cells, of a zero value's over and over -/
def zerosV (z : List VV) (n : Nat) : List VV := (List.range n).map fun i => z.getD (i % z.length) .any

/-- of an element type: its size, a row of n cells -/
def zeroRowV (P : Program) (e : TypeId) (n : Nat) : Option (List VV) :=
  match n with
  | 0 => some []
  | n + 1 => match zeroV P e with
    | some z => match cellsV z with
      | some (c :: cs) => some (zerosV (c :: cs) (n + 1))
      | _ => none
    | none => none

def buildSliceV (P : Program) (S : St) (t : TypeId) (len : Nat) (parts : List (Nat × VV)) : Option (VV × St) :=
  match P.underlying t with
  | some (.slice e) => match sizeV P e with
    | some size =>
      if len * size ≤ 16777216 then
        match zeroRowV P e (len * size) with
        | some row => match fillV (fun i => some (i * size, size)) row parts with
          | some cs => match newRowV S cs (len * size) e false with
            | some (r, S) => some (.slice (some (r, 0)) len (.just len), S)
            | none => none
          | none => none
        | none => none
      else none
    | none => none
  | _ => none

def boxV (S : St) (t : TypeId) (v : VV) : Option (VV × St) :=
  match cellsV v with
  | some cs => match newRowV S cs cs.length t false with
    | some (r, S) => some (.ptr (some (r, 0)), S)
    | none => none
  | none => none

def allocV (P : Program) (S : St) (t : TypeId) : Option (VV × St) :=
  match zeroV P t with
  | some z => boxV S t z
  | none => none

def storeVarV (P : Program) (S : St) (t : TypeId) (a v : VV) : Option (VV × St) :=
  match a, cellsV v, sizeV P t with
  | .ptr (some (id, off)), some cs, some n =>
    if cs.length = n then
      match storeV S id off cs with
      | some S => some (undefV, S)
      | none => none
    else none
  | _, _, _ => none

def fieldAddrV (P : Program) (s : TypeId) (a : VV) (f : Nat) : Option VV :=
  match P.underlying s with
  | some (.struct fields) => match fields[f]?, a with
    | some fd, .ptr (some (id, off)) => match sizeV P fd.type with
      | some (_ + 1) => some (.ptr (some (id, off + fd.offset)))
      | _ => none
    | _, _ => none
  | _ => none

def fieldV (P : Program) (t : TypeId) (x : VV) (f : Nat) : Option VV :=
  match P.underlying t with
  | some (.struct fields) => match fields[f]?, x with
    | some fd, .agg cs => partV P fd.type cs fd.offset
    | _, _ => none
  | _ => none

def indexAddrV (P : Program) (t : TypeId) (x ix : VV) : Option VV :=
  match ix with
  | .int _ i =>
    if 0 ≤ i then
      match P.underlying t with
      | some (.array len e) => match x, sizeV P e with
        | .ptr (some (id, off)), some n => match Nat.blt i.toNat len with
          | true => some (.ptr (some (id, off + i.toNat * n)))
          | false => none
        | _, _ => none
      | some (.slice e) => match x, sizeV P e with
        | .slice (some (id, off)) len _, some n => match Nat.blt i.toNat len with
          | true => some (.ptr (some (id, off + i.toNat * n)))
          | false => none
        | _, _ => none
      | _ => none
    else none
  | _ => none

def indexV (P : Program) (t : TypeId) (x ix : VV) : Option VV :=
  match ix with
  | .int _ i =>
    if 0 ≤ i then
      match P.underlying t with
      | some (.array len e) => match x, sizeV P e with
        | .agg cs, some n => match Nat.blt i.toNat len with
          | true => partV P e cs (i.toNat * n)
          | false => none
        | _, _ => none
      | some .string => match x with
        | .str s => match s[i.toNat]? with
          | some b => some (.int .u8 b.toNat)
          | none => none
        | _ => none
      | _ => none
    else none
  | _ => none

/- slices -/
def boundV (x : VV) (y : Nat) : Option Nat :=
  match x with
  | .int _ i => if 0 ≤ i then (match Nat.ble i.toNat y with | true => some i.toNat | false => none) else none
  | _ => none

def optBoundV (x : Option VV) (y d : Nat) : Option Nat :=
  match x with
  | some v => boundV v y
  | none => some d

/-- low, high, max of what has n, of which high is d if it isn't said -/
def boundsV (d n : Nat) (lo hi mx : Option VV) : Option (Nat × Nat × Nat) :=
  match optBoundV mx n n with
  | none => none
  | some m => match optBoundV hi m d with
    | none => none
    | some h => match optBoundV lo h 0 with
      | none => none
      | some l => some (l, h, m)

def sliceV (P : Program) (t : TypeId) (x : VV) (lo hi mx : Option VV) : Option VV :=
  match P.underlying t with
  | some (.array n e) => match x, sizeV P e with
    | .ptr (some (id, off)), some size =>
      if hi = none ∧ mx ≠ none then none else
      match boundsV n n lo hi mx with
      | some (l, h, m) => some (.slice (some (if m = l then (id, off) else (id, off + l * size))) (h - l) (.just (m - l)))
      | none => none
    | _, _ => none
  | some .string => match x, mx with
    | .str s, none => match boundsV s.length s.length lo hi none with
      | some (l, h, _) => some (.str ((s.drop l).take (h - l)))
      | none => none
    | _, _ => none
  | some (.slice e) => match x, sizeV P e with
    | .slice a len (.just c), some size =>
      if hi = none ∧ mx ≠ none then none else
      match boundsV len c lo hi mx with
      | some (l, h, m) => some (.slice (if m = l then a else a.map fun (id, off) => (id, off + l * size)) (h - l) (.just (m - l)))
      | none => none
    | .slice (some (id, off)) len (.rest z), some size =>
      if z = size then
        match mx with
        | none => match boundsV len len lo hi none with
          | some (l, h, _) => some (.slice (some (id, off + l * size)) (h - l) (.rest size))
          | none => none
        | some _ => if hi = none then none else match boundsV len len lo hi mx with
          | some (l, h, m) => if m = l then some (.slice (some (id, off)) 0 (.just 0)) else some (.slice (some (id, off + l * size)) (h - l) (.just (m - l)))
          | none => none
      else none
    | _, _ => none
  | _ => none

def extractV (x : VV) (i : Nat) : Option VV :=
  match x with
  | .tuple vs => vs[i]?
  | _ => none

def nilCheckV (x : VV) : Option VV :=
  match x with
  | .ptr (some a) => some (.ptr (some a))
  | .func (.func f) a b => some (.func (.func f) a b)
  | .func (.yield f) a b => some (.func (.yield f) a b)
  | .iface t v => some (.iface t v)
  | _ => none

def unV (op : UnOp) (x : VV) : Option VV :=
  match op, x with
  | .not, .bool b => some (.bool (!b))
  | .neg, .int k n => intOpV .sub k 0 n
  | .xor, .int k n => intOpV .xor k (if k.signed then -1 else k.max) n
  | _, _ => none

def isConstO : Operand → Bool
  | .const _ => true
  | _ => false

/-- how deep '==' is looked into -/
def eqDepth : Nat := 10000

def binV (P : Program) (S : St) (op : BinOp) (t : TypeId) (x y : Operand) (a b : VV) : Option VV :=
  match a, b with
  | .int k m, .int k' n => match op with
    | .shl => shiftV .shl k m n
    | .shr => shiftV .shr k m n
    | op => if k = k' then intOpV op k m n else none
  | .str s, .str u => strOpV op s u
  | .nilIface, .nilIface =>
    if isConstO x || isConstO y then
      match op with
      | .eql => match eqV P S eqDepth t .nilIface .nilIface with
        | some r => some (.bool r)
        | none => none
      | .neq => match eqV P S eqDepth t .nilIface .nilIface with
        | some r => some (.bool (!r))
        | none => none
      | _ => none
    else none
  | .agg c, .agg d =>
    if P.eqGuardType P.depth t then none else
    match op with
    | .eql => match eqV P S eqDepth t (.agg c) (.agg d) with
      | some r => some (.bool r)
      | none => none
    | .neq => match eqV P S eqDepth t (.agg c) (.agg d) with
      | some r => some (.bool (!r))
      | none => none
    | _ => none
  | .any, _ => none
  | _, .any => none
  | .int _ _, _ => none
  | _, .int _ _ => none
  | a, b => match op with
    | .eql => match eqV P S eqDepth t a b with
      | some r => some (.bool r)
      | none => none
    | .neq => match eqV P S eqDepth t a b with
      | some r => some (.bool (!r))
      | none => none
    | _ => none

/- bytes -/
def bytesOfV : List VV → Option (List UInt8)
  | [] => some []
  | .int .u8 n :: l => match bytesOfV l with
    | some r => some (UInt8.ofNat n.toNat :: r)
    | none => none
  | _ :: _ => none

def cellsOfBytes (s : List UInt8) : List VV := s.map fun b => .int .u8 b.toNat

def convertV (P : Program) (S : St) (src dst : TypeId) (x : VV) : Option (VV × St) :=
  match x with
  | .int _ n => match P.underlying src, P.underlying dst with
    | some _, some (.int k) => some (.int k (k.wrap n), S)
    | some _, some .string => some (.str (Utf8.encode n).data.toList, S)
    | _, _ => none
  | .str s => match P.underlying src, P.underlying dst with
    | some _, some .string => some (.str s, S)
    | some _, some (.slice e) => match P.underlying e with
      | some (.int .u8) =>
        (Tr.ofList (cellsOfBytes s)).with_ fun c => (S.h.set S.nx (.cells c s.length e false true)).with_ fun h =>
          some (.slice (some (S.nx, 0)) s.length (.rest 1), { h := h, nx := S.nx + 1 })
      | _ => none
    | _, _ => none
  | .slice none n c => match P.underlying src, P.underlying dst with
    | some (.slice e), some .string => match P.underlying e with
      | some (.int .u8) => if n = 0 then some (.str [], S) else none
      | _ => none
    | _, _ => none
  | .slice (some (id, off)) n c => match P.underlying src, P.underlying dst with
    | some (.slice e), some .string => match P.underlying e with
      | some (.int .u8) => match loadV S id off n with
        | some l => match bytesOfV l with
          | some s => some (.str s, S)
          | none => none
        | none => none
      | _ => none
    | some (.slice _), some (.slice e) => match P.underlying e with
      | some (.int .u8) =>
        if src = dst then
          match S.h.get id with
          | some (.cells cs m t false _) => (S.h.set id (.cells cs m t false true)).with_ fun h => some (.slice (some (id, off)) n c, { S with h := h })
          | _ => none
        else none
      | _ => none
    | _, _ => none
  | _ => none

def makeInterfaceV (P : Program) (t : TypeId) (x : VV) : Option VV :=
  match P.underlying t with
  | some (.interface _) => none
  | some _ => some (.iface t x)
  | none => none

def makeMapV (P : Program) (S : St) (t : TypeId) (r : Option VV) : Option (VV × St) :=
  match r with
  | none => (S.h.set S.nx (.map [] 0)).with_ fun h => some (.map (some S.nx), { h := h, nx := S.nx + 1 })
  | some (.int _ _) => match P.underlying t with
    | some (.map _ _) => (S.h.set S.nx (.map [] 0)).with_ fun h => some (.map (some S.nx), { h := h, nx := S.nx + 1 })
    | _ => none
  | _ => none

def bytesV (P : Program) (t : TypeId) : Option Nat :=
  match P.info? t with
  | some i => some i.bytes
  | none => none

def makeSliceV (P : Program) (S : St) (t : TypeId) (len cap : VV) : Option (VV × St) :=
  match P.underlying t, len, cap with
  | some (.slice e), .int _ l0, .int _ c0 =>
    let l := IntKind.i64.wrap l0
    let c := IntKind.i64.wrap c0
    match sizeV P e, bytesV P e with
    | some size, some bytes =>
      if 0 ≤ l ∧ l ≤ c ∧ (bytes : Int) * c ≤ 281474976710656 then
        match zeroRowV P e (c.toNat * size) with
        | some row => match newRowV S row (c.toNat * size) e false with
          | some (r, S) => some (.slice (some (r, 0)) l.toNat (.just c.toNat), S)
          | none => none
        | none => none
      else none
    | _, _ => none
  | _, _, _ => none

/- maps -/
/-- may a value of this type be a key, without a look into it? -/
def keyPlain (P : Program) (t : TypeId) : Bool :=
  match P.underlying t with
  | some (.interface _) | some (.array _ _) | some (.struct _) | none => false
  | some _ => true

def keyFields (P : Program) (n : Nat) : List Field → Bool
  | [] => true
  | f :: fs => keyPlain P f.type && (match isAggV P f.type with | some false => true | _ => false) && Nat.blt f.offset n && keyFields P n fs

def keyOk (P : Program) (t : TypeId) (k : VV) : Bool :=
  match P.underlying t with
  | some (.struct fs) => match k with
    | .agg cs => keyFields P cs.length fs.toList
    | _ => false
  | _ => keyPlain P t

/-- where a key is, and what is there -/
def findV (P : Program) (S : St) (t : TypeId) (k : VV) : List (VV × VV × Nat) → Nat → Option (Option (Nat × VV × Nat))
  | [], _ => some none
  | (k', v, b) :: es, i => match eqV P S eqDepth t k k' with
    | some true => some (some (i, v, b))
    | some false => findV P S t k es (i + 1)
    | none => none

def sameV : VV → VV → Bool
  | .bool a, .bool b => a == b
  | .int j a, .int k b => decide (j = k) && a == b
  | .str a, .str b => strEq a b
  | .agg a, .agg b => sameAll a b
  | _, _ => false
  where
  sameAll : List VV → List VV → Bool
    | [], [] => true
    | .int j a :: l, .int k b :: m => decide (j = k) && a == b && sameAll l m
    | .str a :: l, .str b :: m => strEq a b && sameAll l m
    | .bool a :: l, .bool b :: m => a == b && sameAll l m
    | _, _ => false

def mapOfV (S : St) (x : VV) : Option (Nat × List (VV × VV × Nat) × Nat) :=
  match x with
  | .map (some r) => match S.h.get r with
    | some (.map es c) => some (r, es, c)
    | _ => none
  | _ => none

def lookupV (P : Program) (S : St) (t : TypeId) (x k : VV) (ok : Bool) : Option VV :=
  match P.underlying t with
  | some (.map kt et) =>
    match keyOk P kt k with
    | false => none
    | true =>
      match (match x with | .map none => some [] | _ => match mapOfV S x with | some (_, es, _) => some es | none => none) with
      | none => none
      | some es => match findV P S kt k es 0 with
        | none => none
        | some (some (_, v, _)) => some (if ok then .tuple [v, .bool true] else v)
        | some none => match zeroV P et with
          | some z => some (if ok then .tuple [z, .bool false] else z)
          | none => none
  | _ => none

def mapSetV (P : Program) (S : St) (t : TypeId) (x k v : VV) : Option (VV × St) :=
  match P.underlying t with
  | some (.map kt _) =>
    match keyOk P kt k, mapOfV S x with
    | true, some (r, es, c) => match findV P S kt k es 0 with
      | none => none
      | some (some (i, _, b)) => match es[i]? with
        | some (k', _, _) => match sameV k' k with
          | true => (S.h.set r (.map (es.set i (k, v, b)) c)).with_ fun h => some (undefV, { S with h := h })
          | false => none
        | none => none
      | some none => (S.h.set r (.map (es ++ [(k, v, c)]) (c + 1))).with_ fun h => some (undefV, { S with h := h })
    | _, _ => none
  | _ => none

def deleteV (P : Program) (S : St) (t : TypeId) (x k : VV) : Option (VV × St) :=
  match P.underlying t with
  | some (.map kt _) =>
    match keyOk P kt k with
    | false => none
    | true => match x with
      | .map none => some (undefV, S)
      | _ => match mapOfV S x with
        | some (r, es, c) => match findV P S kt k es 0 with
          | none => none
          | some (some (i, _, _)) => (S.h.set r (.map (es.eraseIdx i) c)).with_ fun h => some (undefV, { S with h := h })
          | some none => some (undefV, S)
        | none => none
  | _ => none

/- slices and strings as sources -/
def lenOfV : VV → Option Nat
  | .slice _ n _ => some n
  | .str s => some s.length
  | _ => none

def firstV (S : St) (size n : Nat) : VV → Option (List VV)
  | .slice (some (id, off)) _ _ => match n * size with
    | 0 => some []
    | k + 1 => loadV S id off (k + 1)
  | .slice none _ _ => match n * size with
    | 0 => some []
    | _ => none
  | .str s => match size with
    | 1 => some (cellsOfBytes (s.take n))
    | _ => none
  | _ => none

/-- is there room in memory for so many? -/
def roomV (need bytes : Nat) : Bool := Nat.ble ((2 * need + 1000) * bytes) 281474976710656 && Nat.ble need 4611686018427387904

/-- is the zero of an element type known, and of the type's size? -/
def zeroOk (P : Program) (e : TypeId) (size : Nat) : Bool :=
  match zeroV P e with
  | some z => match cellsV z with
    | some cs => cs.length == size
    | none => false
  | none => false

/-- what is appended, and how many elements these are -/
def appendedV (P : Program) (S : St) (xt e : TypeId) (size : Nat) (x : VV) : Option (List VV × Nat) :=
  match P.underlying xt with
  | some (.int _) => match x with
    | .int _ l => if 0 ≤ IntKind.i64.wrap l then
        (match zeroRowV P e ((IntKind.i64.wrap l).toNat * size) with
         | some new => some (new, (IntKind.i64.wrap l).toNat)
         | none => none) else none
    | _ => none
  | some _ => match lenOfV x with
    | some m => match firstV S size m x with
      | some new => some (new, m)
      | none => none
    | none => none
  | none => none

def appendTo (S : St) (e : TypeId) (size : Nat) (base : Option (Nat × Nat)) (n : Nat) (cap : Cap) (new : List VV) (m : Nat) : Option (VV × St) :=
  match base, cap with
  | none, .just 0 => match n, m with
    | 0, 0 => some (.slice none 0 (.just 0), S)
    | 0, m + 1 => match newRowV S new new.length e false with
      | some (r, S) => some (.slice (some (r, 0)) (m + 1) (.rest size), S)
      | none => none
    | _, _ => none
  | some (id, off), .just c =>
    if n + m ≤ c then
      match storeV S id (off + n * size) new with
      | some S => some (.slice (some (id, off)) (n + m) (.just c), S)
      | none => none
    else match firstV S size n (.slice (some (id, off)) n (.just c)) with
      | some old => match newRowV S (old ++ new) (old ++ new).length e false with
        | some (r, S) => some (.slice (some (r, 0)) (n + m) (.rest size), S)
        | none => none
      | none => none
  | some (id, off), .rest z =>
    if z = size then
      match m with
      | 0 => some (.slice (some (id, off)) n (.rest size), S)
      | m + 1 => match S.h.get id with
        | some (.cells c k t false mk) =>
          if off + (n + (m + 1)) * size ≤ k ∧ n ≠ 0 then
            match storeV S id (off + n * size) new with
            | some S => some (.slice (some (id, off)) (n + (m + 1)) (.rest size), S)
            | none => none
          else match c.row off (n * size) with
            | some old => match newRowV { S with h := S.h.del id } (old ++ new) (old ++ new).length e mk with
              | some (r, S) => some (.slice (some (r, 0)) (n + (m + 1)) (.rest size), S)
              | none => none
            | none => none
        | _ => none
    else none
  | _, _ => none

def appendV (P : Program) (S : St) (ts : List TypeId) (args : List VV) : Option (VV × St) :=
  match ts, args with
  | [t, xt], [.slice base n cap, x] => match P.underlying t with
    | some (.slice e) => match sizeV P e, bytesV P e with
      | some (size + 1), some bytes =>
        match zeroOk P e (size + 1), appendedV P S xt e (size + 1) x with
        | true, some (new, m) =>
          match roomV (n + m) bytes with
          | false => none
          | true => appendTo S e (size + 1) base n cap new m
        | _, _ => none
      | _, _ => none
    | _ => none
  | _, _ => none

def copyV (P : Program) (S : St) (ts : List TypeId) (args : List VV) : Option (VV × St) :=
  match ts, args with
  | t :: _, [.slice base n _, x] => match P.underlying t with
    | some (.slice e) => match sizeV P e, lenOfV x with
      | some size, some m => match firstV S size (Nat.min m n) x with
        | some new => match base with
          | some (id, off) => match storeV S id off new with
            | some S => some (.int .i64 (Nat.min m n), S)
            | none => none
          | none => some (.int .i64 (Nat.min m n), S)
        | none => none
      | _, _ => none
    | _ => none
  | _, _ => none

def lenV (P : Program) (S : St) (ts : List TypeId) (args : List VV) : Option VV :=
  match ts, args with
  | [t], [x] => match P.underlying t with
    | some .string => match x with
      | .str s => some (.int .i64 s.length)
      | _ => none
    | some (.array n _) => some (.int .i64 n)
    | some (.slice _) => match x with
      | .slice _ n _ => some (.int .i64 n)
      | _ => none
    | some (.map _ _) => match x with
      | .map none => some (.int .i64 0)
      | _ => match mapOfV S x with
        | some (_, es, _) => some (.int .i64 es.length)
        | none => none
    | _ => none
  | _, _ => none

def capV (P : Program) (ts : List TypeId) (args : List VV) : Option VV :=
  match ts, args with
  | [t], [x] => match P.underlying t with
    | some (.array n _) => some (.int .i64 n)
    | some (.slice _) => match x with
      | .slice _ _ (.just n) => some (.int .i64 n)
      | _ => none
    | _ => none
  | _, _ => none

def minMaxV (mx : Bool) : VV → List VV → Option VV
  | x, [] => match x with
    | .int k n => some (.int k n)
    | _ => none
  | .int k a, .int _ b :: l => minMaxV mx (.int k (if mx then (if b > a then b else a) else (if b < a then b else a))) l
  | _, _ => none

def clearV (P : Program) (S : St) (ts : List TypeId) (args : List VV) : Option (VV × St) :=
  match ts, args with
  | [t], [x] => match P.underlying t with
    | some (.map _ _) => match x with
      | .map none => some (undefV, S)
      | _ => match mapOfV S x with
        | some (r, _, c) => (S.h.set r (.map [] c)).with_ fun h => some (undefV, { S with h := h })
        | none => none
    | some (.slice e) => match x with
      | .slice none _ _ => some (undefV, S)
      | .slice (some (id, off)) n _ => match n with
        | 0 => some (undefV, S)
        | n + 1 => match zeroV P e with
          | some z => match cellsV z with
            | some (c :: cs) => match storeV S id off (zerosV (c :: cs) ((n + 1) * (c :: cs).length)) with
              | some S => some (undefV, S)
              | none => none
            | _ => none
          | none => none
      | _ => none
    | _ => none
  | _, _ => none

def builtinV (P : Program) (S : St) (b : Builtin) (ts : List TypeId) (args : List VV) : Option (VV × St) :=
  match b with
  | .append => appendV P S ts args
  | .copy => copyV P S ts args
  | .len => match lenV P S ts args with
    | some v => some (v, S)
    | none => none
  | .cap => match capV P ts args with
    | some v => some (v, S)
    | none => none
  | .min => match args with
    | x :: l => match minMaxV false x l with
      | some v => some (v, S)
      | none => none
    | [] => none
  | .max => match args with
    | x :: l => match minMaxV true x l with
      | some v => some (v, S)
      | none => none
    | [] => none
  | .delete => match ts, args with
    | t :: _, [m, k] => deleteV P S t m k
    | _, _ => none
  | .clear => clearV P S ts args
  | _ => none

/- iterators -/
def rangeV (P : Program) (S : St) (t : TypeId) (x : VV) : Option (VV × St) :=
  match (match P.underlying t, x with
    | some .string, .str s => some (.strIter s 0)
    | some (.map _ _), .map none => some (.mapIter none 0 [] 0)
    | some (.map _ _), _ => match mapOfV S x with
      | some (r, _, c) => some (.mapIter (some r) c [] c)
      | none => none
    | _, _ => (none : Option VObj)) with
  | some o => (S.h.set S.nx o).with_ fun h => some (.ptr (some (S.nx, 0)), { h := h, nx := S.nx + 1 })
  | none => none

/-- entries that have not been met -/
def leftV (seen : List Nat) : List (VV × VV × Nat) → List (VV × VV × Nat)
  | [] => []
  | (k, v, b) :: es => if seen.contains b then leftV seen es else (k, v, b) :: leftV seen es

/-- one step of an iterator: what may come of it -/
def nextV (S : St) (it : VV) (isString : Bool) : Option (List (VV × St)) :=
  match it with
  | .ptr (some (r, 0)) => match S.h.get r with
    | some (.strIter s pos) =>
      if isString then
        if pos < s.length then
          let (c, width) := Utf8.decode ⟨s.toArray⟩ pos
          (S.h.set r (.strIter s (pos + width))).with_ fun h => some [(.tuple [.bool true, .int .i64 pos, .int .i32 c], { S with h := h })]
        else some [(.tuple [.bool false], S)]
      else none
    | some (.mapIter none _ _ _) => if isString then none else some [(.tuple [.bool false], S)]
    | some (.mapIter (some m) since seen last) =>
      if isString then none else
      match S.h.get m with
      | some (.map es clock) =>
        if !seen.isEmpty && !es.isEmpty && es.all (fun e => last ≤ e.2.2) then none else
        match leftV seen es with
        | [] => some [(.tuple [.bool false], { S with h := S.h.del r })]
        | left =>
          if left.all (fun e => e.2.2 < since) then
            some (left.map fun e => (.tuple [.bool true, e.1, e.2.1], { S with h := S.h.set r (.mapIter (some m) since (seen ++ [e.2.2]) clock) }))
          else none
      | _ => none
    | _ => none
  | _ => none

def entryOf (stamp : Nat) : List (VV × VV × Nat) → Option VV
  | [] => none
  | (k, v, b) :: es => if b == stamp then some (.tuple [k, v]) else entryOf stamp es

/-- the entry at which an iterator stands -/
def entryV (S : St) (it : VV) : Option VV :=
  match it with
  | .ptr (some (r, 0)) => match S.h.get r with
    | some (.mapIter (some m) _ seen stepped) => match seen.getLast?, S.h.get m with
      | some stamp, some (.map es clock) => if clock = stepped then entryOf stamp es else none
      | _, _ => none
    | _ => none
  | _ => none

def typeAssertV (P : Program) (x : VV) (asserted : TypeId) (ok : Bool) : Option VV :=
  match P.underlying asserted, x with
  | some (.interface _), .nilIface => if ok then (match zeroV P asserted with | some z => some (.tuple [z, .bool false]) | none => none) else none
  | some (.interface want), .iface t v => match P.info? t with
    | some i => match Instr.missingMethod want i.methods with
      | none => some (if ok then .tuple [.iface t v, .bool true] else .iface t v)
      | some _ => if ok then (match zeroV P asserted with | some z => some (.tuple [z, .bool false]) | none => none) else none
    | none => none
  | some _, .nilIface => if ok then (match zeroV P asserted with | some z => some (.tuple [z, .bool false]) | none => none) else none
  | some _, .iface t v =>
    if t = asserted then some (if ok then .tuple [v, .bool true] else v)
    else if ok then (match zeroV P asserted with | some z => some (.tuple [z, .bool false]) | none => none) else none
  | _, _ => none

def optV (x : Option VV) (S : St) : Option (VV × St) :=
  match x with
  | some v => some (v, S)
  | none => none

/-- an operation that calls nothing, defers nothing, ends nothing, and has one outcome -/
def simpleV (P : Program) (e : Operand → VV) (S : St) (op : Op) : Option (VV × St) :=
  match op with
  | .move x => some (e x, S)
  | .assign x => some (e x, S)
  | .pick c a b => match e c with
    | .bool true => some (e a, S)
    | .bool false => some (e b, S)
    | _ => none
  | .alloc t => allocV P S t
  | .box t x => boxV S t (e x)
  | .build t ps => optV (buildV P t (ps.toList.map fun (i, x) => (i, e x))) S
  | .buildSlice t n ps => buildSliceV P S t n (ps.toList.map fun (i, x) => (i, e x))
  | .insert t m k x => mapSetV P S t (e m) (e k) (e x)
  | .load t a => match e a with
    | .ptr (some (id, off)) => optV (loadVarV P S t id off) S
    | _ => none
  | .store t a x => storeVarV P S t (e a) (e x)
  | .nilCheck x => optV (nilCheckV (e x)) S
  | .binOp op t x y _ => optV (binV P S op t x y (e x) (e y)) S
  | .unOp op _ x => optV (unV op (e x)) S
  | .convert a b x => convertV P S a b (e x)
  | .makeInterface t x => optV (makeInterfaceV P t (e x)) S
  | .makeFunc fn a b => match fn with
    | .yield _ => none
    | fn => some (.func fn (a.toList.map e) (b.toList.map e), S)
  | .makeMap t r => makeMapV P S t (r.map e)
  | .makeSlice t l c => makeSliceV P S t (e l) (e c)
  | .slice t x l h m => optV (sliceV P t (e x) (l.map e) (h.map e) (m.map e)) S
  | .fieldAddr t x f => optV (fieldAddrV P t (e x) f) S
  | .field t x f => optV (fieldV P t (e x) f) S
  | .indexAddr t x i => optV (indexAddrV P t (e x) (e i)) S
  | .index t x i => optV (indexV P t (e x) (e i)) S
  | .lookup t x i ok => optV (lookupV P S t (e x) (e i) ok) S
  | .mapUpdate t m k x => mapSetV P S t (e m) (e k) (e x)
  | .range t x => rangeV P S t (e x)
  | .entry x => optV (entryV S (e x)) S
  | .typeAssert x _ t ok => optV (typeAssertV P (e x) t ok) S
  | .extract x i => optV (extractV (e x) i) S
  | .call c => match c.callee with
    | .builtin b => builtinV P S b c.argTypes.toList (c.args.toList.map e)
    | _ => none
  | _ => none

end Go.Vm
