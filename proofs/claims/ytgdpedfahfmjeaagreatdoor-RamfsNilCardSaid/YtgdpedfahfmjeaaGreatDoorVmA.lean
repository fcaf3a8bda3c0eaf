/-
  A virtual semantics of the model's code (1): a map from numbers, values, objects, the state. Nothing of any one program.
-/
import GoSem.Step
namespace Go.Vm

/- a map from numbers: a tree by the number's bits -/
inductive Tr (α : Type) where
  | nil
  | node (v : Option α) (l r : Tr α)

namespace Tr
variable {α β : Type}

def get : Tr α → Nat → Option α
  | .nil, _ => none
  | .node v l r, k =>
    match k with
    | 0 => v
    | k + 1 => match k % 2 with
      | 0 => get l (k / 2)
      | _ => get r (k / 2)

/-- the result is forced, then handed on -/
def with_ (t : Tr α) (c : Tr α → β) : β :=
  match t with
  | .nil => c .nil
  | .node v l r => c (.node v l r)

@[simp] theorem with_eq (t : Tr α) (c : Tr α → β) : t.with_ c = c t := by cases t <;> rfl

def putF (a : Option α) : Nat → Tr α → Nat → Tr α
  | 0, t, _ => t
  | n + 1, t, k =>
    match t with
    | .nil => match k with
      | 0 => .node a .nil .nil
      | k + 1 => match k % 2 with
        | 0 => (putF a n .nil (k / 2)).with_ fun l => .node none l .nil
        | _ => (putF a n .nil (k / 2)).with_ fun r => .node none .nil r
    | .node v l r => match k with
      | 0 => .node a l r
      | k + 1 => match k % 2 with
        | 0 => (putF a n l (k / 2)).with_ fun l => .node v l r
        | _ => (putF a n r (k / 2)).with_ fun r => .node v l r

def put (t : Tr α) (k : Nat) (a : Option α) : Tr α := putF a (k + 1) t k
def set (t : Tr α) (k : Nat) (a : α) : Tr α := t.put k (some a)
def del (t : Tr α) (k : Nat) : Tr α := t.put k none

@[simp] theorem get_nil (k : Nat) : (Tr.nil : Tr α).get k = none := rfl

theorem get_node_zero (v : Option α) (l r : Tr α) : (Tr.node v l r).get 0 = v := rfl
theorem get_node_succ (v : Option α) (l r : Tr α) (k : Nat) : (Tr.node v l r).get (k + 1) = if k % 2 = 0 then l.get (k / 2) else r.get (k / 2) := by
  simp only [get]
  rcases Nat.mod_two_eq_zero_or_one k with h | h <;> simp [h]

theorem get_putF (a : Option α) : ∀ (n : Nat) (t : Tr α) (k : Nat), k < n → ∀ j, (putF a n t k).get j = if j = k then a else t.get j := by
  intro n
  induction n with
  | zero => intro t k h; omega
  | succ n ih =>
    intro t k h j
    cases t with
    | nil =>
      cases k with
      | zero =>
        simp only [putF]
        cases j with
        | zero => simp [get_node_zero]
        | succ j => simp [get_node_succ]
      | succ k =>
        have hk : k / 2 < n := by omega
        simp only [putF]
        rcases Nat.mod_two_eq_zero_or_one k with hm | hm <;> simp only [hm, with_eq] <;> cases j with
        | zero => simp [get_node_zero]
        | succ j =>
          rw [get_node_succ]
          simp only [get_nil]
          rcases Nat.mod_two_eq_zero_or_one j with hj | hj <;> simp only [hj, if_true, if_false, Nat.one_ne_zero, ih .nil (k / 2) hk, get_nil] <;>
            first
              | (have : (j / 2 = k / 2) ↔ (j = k) := by omega
                 simp [this]; done)
              | (have : ¬ (j = k) := by omega
                 simp [this]; done)
    | node v l r =>
      cases k with
      | zero =>
        simp only [putF]
        cases j with
        | zero => simp [get_node_zero]
        | succ j => simp [get_node_succ]
      | succ k =>
        have hk : k / 2 < n := by omega
        simp only [putF]
        rcases Nat.mod_two_eq_zero_or_one k with hm | hm <;> simp only [hm, with_eq] <;> cases j with
        | zero => simp [get_node_zero]
        | succ j =>
          rw [get_node_succ, get_node_succ]
          rcases Nat.mod_two_eq_zero_or_one j with hj | hj <;> simp only [hj, if_true, if_false, Nat.one_ne_zero, ih l (k / 2) hk, ih r (k / 2) hk] <;>
            first
              | (have : (j / 2 = k / 2) ↔ (j = k) := by omega
                 simp [this]; done)
              | (have : ¬ (j = k) := by omega
                 simp [this]; done)

theorem get_put (t : Tr α) (k j : Nat) (a : Option α) : (t.put k a).get j = if j = k then a else t.get j := get_putF a (k + 1) t k (Nat.lt_succ_self k) j
@[simp] theorem get_put_same (t : Tr α) (k : Nat) (a : Option α) : (t.put k a).get k = a := by simp [get_put]
theorem get_put_ne (t : Tr α) {k j : Nat} (a : Option α) (h : j ≠ k) : (t.put k a).get j = t.get j := by simp [get_put, h]
theorem get_set (t : Tr α) (k j : Nat) (a : α) : (t.set k a).get j = if j = k then some a else t.get j := get_put t k j (some a)
@[simp] theorem get_set_same (t : Tr α) (k : Nat) (a : α) : (t.set k a).get k = some a := by simp [get_set]
theorem get_set_ne (t : Tr α) {k j : Nat} (a : α) (h : j ≠ k) : (t.set k a).get j = t.get j := by simp [get_set, h]
theorem get_del (t : Tr α) (k j : Nat) : (t.del k).get j = if j = k then none else t.get j := get_put t k j none

/-- a list's elements from a number on -/
def setAll (t : Tr α) (i : Nat) : List α → Tr α
  | [] => t
  | a :: l => (t.set i a).with_ fun t => setAll t (i + 1) l

theorem get_setAll : ∀ (l : List α) (t : Tr α) (i j : Nat), (t.setAll i l).get j = if i ≤ j ∧ j < i + l.length then l[j - i]? else t.get j := by
  intro l
  induction l with
  | nil => intro t i j; simp only [setAll, List.length_nil]; rw [if_neg (by omega)]
  | cons a l ih =>
    intro t i j
    simp only [setAll, with_eq, ih, get_set, List.length_cons]
    by_cases h : j = i
    · subst h
      rw [if_neg (by omega), if_pos rfl, if_pos (by omega)]
      simp
    · rw [if_neg h]
      by_cases h2 : i + 1 ≤ j ∧ j < i + 1 + l.length
      · rw [if_pos h2, if_pos (by omega), show j - i = (j - (i + 1)) + 1 by omega]
        simp
      · rw [if_neg h2, if_neg (by omega)]

def ofList (l : List α) : Tr α := setAll .nil 0 l
theorem get_ofList (l : List α) (j : Nat) : (ofList l).get j = l[j]? := by
  simp only [ofList, get_setAll, get_nil]
  by_cases h : j < l.length
  · rw [if_pos (by omega)]; simp
  · rw [if_neg (by omega)]; simp [List.getElem?_eq_none (Nat.le_of_not_lt h)]

/-- n elements from a number on -/
def row (t : Tr α) : Nat → Nat → Option (List α)
  | _, 0 => some []
  | i, n + 1 => match t.get i with
    | none => none
    | some a => match row t (i + 1) n with
      | none => none
      | some l => some (a :: l)

theorem row_spec (t : Tr α) : ∀ (n i : Nat) (l : List α), t.row i n = some l ↔ l.length = n ∧ ∀ j, j < n → t.get (i + j) = l[j]? := by
  intro n
  induction n with
  | zero =>
    intro i l
    simp only [row]
    constructor
    · intro h; cases h; exact ⟨rfl, fun j hj => absurd hj (Nat.not_lt_zero j)⟩
    · rintro ⟨h, _⟩; rw [List.length_eq_zero_iff.1 h]
  | succ n ih =>
    intro i l
    simp only [row]
    constructor
    · intro h
      cases ha : t.get i with
      | none => simp [ha] at h
      | some a =>
        simp only [ha] at h
        cases hr : t.row (i + 1) n with
        | none => simp [hr] at h
        | some r =>
          simp only [hr, Option.some.injEq] at h
          subst h
          obtain ⟨h1, h2⟩ := (ih (i + 1) r).1 hr
          refine ⟨by simp [h1], fun j hj => ?_⟩
          cases j with
          | zero => simpa using ha
          | succ j => rw [show i + (j + 1) = i + 1 + j by omega, h2 j (by omega)]; simp
    · rintro ⟨h1, h2⟩
      cases l with
      | nil => simp at h1
      | cons a l =>
        have h0 := h2 0 (by omega)
        simp at h0
        have hr : t.row (i + 1) n = some l := (ih (i + 1) l).2 ⟨by simpa using h1, fun j hj => by
          have := h2 (j + 1) (by omega)
          rw [show i + (j + 1) = i + 1 + j by omega] at this
          simpa using this⟩
        simp [h0, hr]

end Tr

/- values: as the model's, but with addresses of our own, strings as lists, and a slice's capacity known or not -/
inductive Cap where
  /-- just so many -/
  | just (n : Nat)
  /-- to the end of the row, of which no more is known: elements of so many cells -/
  | rest (size : Nat)

instance : DecidableEq Cap := fun a b => match a, b with
  | .just m, .just n => if h : m = n then .isTrue (by rw [h]) else .isFalse (fun e => h (by cases e; rfl))
  | .rest m, .rest n => if h : m = n then .isTrue (by rw [h]) else .isFalse (fun e => h (by cases e; rfl))
  | .just _, .rest _ => .isFalse (fun e => by cases e)
  | .rest _, .just _ => .isFalse (fun e => by cases e)

inductive VV where
  /-- whatever -/
  | any
  | bool (b : Bool)
  | int (k : IntKind) (n : Int)
  | str (s : List UInt8)
  | ptr (a : Option (Nat × Nat))
  | slice (a : Option (Nat × Nat)) (len : Nat) (cap : Cap)
  | map (r : Option Nat)
  | func (fn : Fn) (first captured : List VV)
  | nilFunc
  | iface (t : TypeId) (v : VV)
  | nilIface
  | agg (cs : List VV)
  | tuple (vs : List VV)

mutual
/-- a constant of the code -/
def VV.ofValue : Value → VV
  | .bool b => .bool b
  | .int k n => .int k n
  | .string s => .str s.data.toList
  | .pointer none => .ptr none
  | .slice none n c => .slice none n (.just c)
  | .map none => .map none
  | .nilFunc => .nilFunc
  | .nilIface => .nilIface
  | .agg ⟨cs⟩ => .agg (VV.ofValues cs)
  | .tuple ⟨cs⟩ => .tuple (VV.ofValues cs)
  | _ => .any
def VV.ofValues : List Value → List VV
  | [] => []
  | v :: l => VV.ofValue v :: VV.ofValues l
end

def VV.cells : VV → List VV
  | .agg cs => cs
  | v => [v]

/-- may it lie in one cell? -/
def VV.one : VV → Bool
  | .agg _ | .tuple _ | .any => false
  | _ => true

/-- a deferred call: of a function value, or of those that a range over a function gathered -/
inductive VDef where
  | fn (fn : Fn) (captured args : List VV)
  | nil (args : List VV)
  | collected (r : Nat)

structure VLoop where
  state : LoopState
  pending : Option Code
  fn : FuncId
  t : Tr VV
  n : Nat
  params : List Tmp
  assign : Code
  body : Code
  defers : Nat

inductive VObj where
  /-- a row of n cells; may it be written? may it be marked as a string's bytes, behind its end? -/
  | cells (c : Tr VV) (n : Nat) (t : TypeId) (ro marked : Bool)
  | map (es : List (VV × VV × Nat)) (clock : Nat)
  | strIter (s : List UInt8) (pos : Nat)
  | mapIter (m : Option Nat) (since : Nat) (seen : List Nat) (stepped : Nat)
  | loop (l : VLoop)
  | deferred (calls : Option (List VDef))

structure St where
  h : Tr VObj
  nx : Nat

structure VPan where
  v : VV
  recovered : Bool

structure Fr where
  t : Tr VV
  n : Nat
  ds : List VDef
  /-- the caller's panic, if a recover here would meet one -/
  rc : Option (List VPan)

/-- what an operand is, a slot being looked up so; there are G variables -/
def evO (G : Nat) (look : Tmp → Option VV) : Operand → VV
  | .tmp t => match look t with
    | some v => v
    | none => .any
  | .const v => VV.ofValue v
  | .global g => match Nat.blt g G with
    | true => .ptr (some (g, 0))
    | false => .any
  | .func f => .func (.func f) [] []

def Fr.ev (fr : Fr) (G : Nat) : Operand → VV := evO G fun t => fr.t.get t

end Go.Vm
