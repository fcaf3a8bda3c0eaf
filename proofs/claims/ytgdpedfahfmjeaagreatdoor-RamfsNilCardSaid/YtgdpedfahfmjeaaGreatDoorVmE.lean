/-
  A virtual semantics of the model's code (5): what a virtual state says of a world.
-/
import Derived.Test.YtgdpedfahfmjeaaGreatDoorVmD
import Derived.Laws.Sem
import Derived.Laws.World
import Derived.Calls
namespace Go.Vm

/-- where a row of ours lies: its block, its first cell, how many cells there are from there to the block's end -/
abbrev Ren := Nat → Option (Nat × Nat × Nat)

def Ren.le (ρ ρ' : Ren) : Prop := ∀ id x, ρ id = some x → ρ' id = some x
theorem Ren.le_refl (ρ : Ren) : ρ.le ρ := fun _ _ h => h
theorem Ren.le.le_trans {ρ ρ' ρ'' : Ren} (h : ρ.le ρ') (h' : ρ'.le ρ'') : ρ.le ρ'' := fun _ _ x => h' _ _ (h _ _ x)

inductive FnRel (ρ : Ren) : Fn → Fn → Prop where
  | func (f : FuncId) : FnRel ρ (.func f) (.func f)
  | method (s : String) : FnRel ρ (.method s) (.method s)
  | methodOf (t : TypeId) (s : String) : FnRel ρ (.methodOf t s) (.methodOf t s)
  | via (t : TypeId) (path : Array FieldStep) (f : FuncId) (p : Bool) : FnRel ρ (.via t path f p) (.via t path f p)
  | yield {l r b n : Nat} (h : ρ l = some (r, b, n)) : FnRel ρ (.yield l) (.yield r)

mutual
inductive VRel (ρ : Ren) : VV → Value → Prop where
  | any (v : Value) : VRel ρ .any v
  | bool (b : Bool) : VRel ρ (.bool b) (.bool b)
  | int (k : IntKind) (n : Int) : VRel ρ (.int k n) (.int k n)
  | str (s : ByteArray) : VRel ρ (.str s.data.toList) (.string s)
  | nilPtr : VRel ρ (.ptr none) (.pointer none)
  | ptr {id r b n off : Nat} (h : ρ id = some (r, b, n)) : VRel ρ (.ptr (some (id, off))) (.pointer (some ⟨r, b + off, none⟩))
  | nilSlice (n c : Nat) : VRel ρ (.slice none n (.just c)) (.slice none n c)
  | slice {id r b n off : Nat} (len c : Nat) (h : ρ id = some (r, b, n)) : VRel ρ (.slice (some (id, off)) len (.just c)) (.slice (some ⟨r, b + off, none⟩) len c)
  | rest {id r b n off : Nat} (len c z : Nat) (h : ρ id = some (r, b, n)) (hc : off + c * z = n) (hl : len ≤ c) :
      VRel ρ (.slice (some (id, off)) len (.rest z)) (.slice (some ⟨r, b + off, none⟩) len c)
  | restEnd {id r b n off : Nat} (off' z : Nat) (h : ρ id = some (r, b, n)) : VRel ρ (.slice (some (id, off)) 0 (.rest z)) (.slice (some ⟨r, off', none⟩) 0 0)
  | sliceEnd {id r b n off : Nat} (off' : Nat) (h : ρ id = some (r, b, n)) : VRel ρ (.slice (some (id, off)) 0 (.just 0)) (.slice (some ⟨r, off', none⟩) 0 0)
  | nilMap : VRel ρ (.map none) (.map none)
  | map {id r b n : Nat} (h : ρ id = some (r, b, n)) : VRel ρ (.map (some id)) (.map (some r))
  | func {fn fn' : Fn} {f c : List VV} {f' c' : Array Value} (hf : FnRel ρ fn fn') (h1 : VRels ρ f f'.toList) (h2 : VRels ρ c c'.toList) : VRel ρ (.func fn f c) (.func fn' f' c')
  | nilFunc : VRel ρ .nilFunc .nilFunc
  | iface (t : TypeId) {v : VV} {v' : Value} (h : VRel ρ v v') : VRel ρ (.iface t v) (.iface t v')
  | nilIface : VRel ρ .nilIface .nilIface
  | agg {cs : List VV} {cs' : Array Value} (h : VRels ρ cs cs'.toList) : VRel ρ (.agg cs) (.agg cs')
  | tuple {cs : List VV} {cs' : Array Value} (h : VRels ρ cs cs'.toList) : VRel ρ (.tuple cs) (.tuple cs')
inductive VRels (ρ : Ren) : List VV → List Value → Prop where
  | nil : VRels ρ [] []
  | cons {v : VV} {v' : Value} {l : List VV} {l' : List Value} (h : VRel ρ v v') (t : VRels ρ l l') : VRels ρ (v :: l) (v' :: l')
end

theorem FnRel.mono {ρ ρ' : Ren} (hρ : ρ.le ρ') {f f' : Fn} (h : FnRel ρ f f') : FnRel ρ' f f' := by
  cases h with
  | func => exact .func _
  | method => exact .method _
  | methodOf => exact .methodOf _ _
  | via => exact .via _ _ _ _
  | yield h => exact .yield (hρ _ _ h)

mutual
theorem VRel.mono {ρ ρ' : Ren} (hρ : ρ.le ρ') {v : VV} {v' : Value} (h : VRel ρ v v') : VRel ρ' v v' := by
  cases h with
  | any => exact .any _
  | bool => exact .bool _
  | int => exact .int _ _
  | str => exact .str _
  | nilPtr => exact .nilPtr
  | ptr h => exact .ptr (hρ _ _ h)
  | nilSlice => exact .nilSlice _ _
  | slice _ _ h => exact .slice _ _ (hρ _ _ h)
  | rest _ _ _ h hc hl => exact .rest _ _ _ (hρ _ _ h) hc hl
  | restEnd _ _ h => exact .restEnd _ _ (hρ _ _ h)
  | sliceEnd _ h => exact .sliceEnd _ (hρ _ _ h)
  | nilMap => exact .nilMap
  | map h => exact .map (hρ _ _ h)
  | func hf h1 h2 => exact .func (hf.mono hρ) (VRels.mono hρ h1) (VRels.mono hρ h2)
  | nilFunc => exact .nilFunc
  | iface _ h => exact .iface _ (VRel.mono hρ h)
  | nilIface => exact .nilIface
  | agg h => exact .agg (VRels.mono hρ h)
  | tuple h => exact .tuple (VRels.mono hρ h)
theorem VRels.mono {ρ ρ' : Ren} (hρ : ρ.le ρ') {v : List VV} {v' : List Value} (h : VRels ρ v v') : VRels ρ' v v' := by
  cases h with
  | nil => exact .nil
  | cons h t => exact .cons (VRel.mono hρ h) (VRels.mono hρ t)
end

theorem VRels.length {ρ : Ren} : ∀ {l : List VV} {l' : List Value}, VRels ρ l l' → l'.length = l.length
  | _, _, .nil => rfl
  | _, _, .cons _ t => by simp [VRels.length t]

theorem VRels.get {ρ : Ren} : ∀ {l : List VV} {l' : List Value}, VRels ρ l l' → ∀ {i : Nat} {v : VV}, l[i]? = some v → ∃ v', l'[i]? = some v' ∧ VRel ρ v v'
  | _, _, .nil, i, v, h => by simp at h
  | _, _, .cons h t, 0, v, hv => by simp at hv; subst hv; exact ⟨_, rfl, h⟩
  | _, _, .cons h t, i + 1, v, hv => by simp at hv; simpa using VRels.get t hv

theorem VRels.append {ρ : Ren} : ∀ {l : List VV} {l' : List Value} {m : List VV} {m' : List Value}, VRels ρ l l' → VRels ρ m m' → VRels ρ (l ++ m) (l' ++ m')
  | _, _, _, _, .nil, h => h
  | _, _, _, _, .cons h t, h' => .cons h (VRels.append t h')

theorem VRels.drop {ρ : Ren} : ∀ {l : List VV} {l' : List Value}, VRels ρ l l' → ∀ n, VRels ρ (l.drop n) (l'.drop n)
  | _, _, .nil, n => by simp; exact .nil
  | _, _, .cons h t, 0 => .cons h t
  | _, _, .cons h t, n + 1 => by simpa using VRels.drop t n

theorem VRels.take {ρ : Ren} : ∀ {l : List VV} {l' : List Value}, VRels ρ l l' → ∀ n, VRels ρ (l.take n) (l'.take n)
  | _, _, .nil, n => by simp; exact .nil
  | _, _, .cons h t, 0 => by simp; exact .nil
  | _, _, .cons h t, n + 1 => by simpa using .cons h (VRels.take t n)

theorem VRels.map {ρ : Ren} {α : Type} {f : α → VV} {g : α → Value} (l : List α) (h : ∀ a ∈ l, VRel ρ (f a) (g a)) : VRels ρ (l.map f) (l.map g) := by
  induction l with
  | nil => exact .nil
  | cons a l ih => exact .cons (h a (by simp)) (ih fun b hb => h b (by simp [hb]))

theorem VRels.of_get {ρ : Ren} : ∀ {l : List VV} {l' : List Value}, l'.length = l.length → (∀ (i : Nat) (v : VV) (v' : Value), l[i]? = some v → l'[i]? = some v' → VRel ρ v v') → VRels ρ l l'
  | [], [], _, _ => .nil
  | [], _ :: _, h, _ => by simp at h
  | _ :: _, [], h, _ => by simp at h
  | v :: l, v' :: l', h, hh => .cons (hh 0 v v' rfl rfl) (VRels.of_get (by simpa using h) fun i a b ha hb => hh (i + 1) a b (by simpa using ha) (by simpa using hb))

/-- the constants -/
theorem ofValue_rel (ρ : Ren) : ∀ v : Value, VRel ρ (VV.ofValue v) v := by
  intro v
  exact Value.rec (motive_1 := fun v => VRel ρ (VV.ofValue v) v) (motive_2 := fun a => VRels ρ (VV.ofValues a.toList) a.toList) (motive_3 := fun l => VRels ρ (VV.ofValues l) l)
    (fun b => by simp only [VV.ofValue]; exact .bool b) (fun k n => by simp only [VV.ofValue]; exact .int k n) (fun _ _ => by simp only [VV.ofValue]; exact .any _) (fun _ _ _ => by simp only [VV.ofValue]; exact .any _)
    (fun s => by simp only [VV.ofValue]; exact .str s) (fun a => by cases a <;> simp only [VV.ofValue] <;> first | exact .nilPtr | exact .any _)
    (fun a n c => by cases a <;> simp only [VV.ofValue] <;> first | exact .nilSlice _ _ | exact .any _) (fun r => by cases r <;> simp only [VV.ofValue] <;> first | exact .nilMap | exact .any _)
    (fun _ => by simp only [VV.ofValue]; exact .any _) (fun _ _ _ _ _ => by simp only [VV.ofValue]; exact .any _) (by simp only [VV.ofValue]; exact .nilFunc) (fun _ _ _ => by simp only [VV.ofValue]; exact .any _)
    (by simp only [VV.ofValue]; exact .nilIface) (fun a h => by cases a; simp only [VV.ofValue]; exact .agg h) (fun a h => by cases a; simp only [VV.ofValue]; exact .tuple h)
    (fun l h => h) (by simp only [VV.ofValues]; exact .nil) (fun v l hv hl => by simp only [VV.ofValues]; exact .cons hv hl) v

/- slots -/
def TRel (ρ : Ren) (t : Tr VV) (n : Nat) (tmps : Array Value) : Prop := tmps.size = n ∧ ∀ i v, t.get i = some v → VRel ρ v (tmps.getD i undef)

theorem TRel.mono {ρ ρ' : Ren} (hρ : ρ.le ρ') {t : Tr VV} {n : Nat} {tmps : Array Value} (h : TRel ρ t n tmps) : TRel ρ' t n tmps :=
  ⟨h.1, fun i v hv => (h.2 i v hv).mono hρ⟩

inductive DRel (ρ : Ren) : VDef → Deferred → Prop where
  | fn {fn fn' : Fn} {c a : List VV} {c' a' : Array Value} (hf : FnRel ρ fn fn') (h1 : VRels ρ c c'.toList) (h2 : VRels ρ a a'.toList) : DRel ρ (.fn fn c a) { target := .fn fn' c', args := a' }
  | collected {l r b n : Nat} (h : ρ l = some (r, b, n)) : DRel ρ (.collected l) { target := .collected r, args := #[] }

theorem DRel.mono {ρ ρ' : Ren} (hρ : ρ.le ρ') {d : VDef} {d' : Deferred} (h : DRel ρ d d') : DRel ρ' d d' := by
  cases h with
  | fn hf h1 h2 => exact .fn (hf.mono hρ) (h1.mono hρ) (h2.mono hρ)
  | collected h => exact .collected (hρ _ _ h)

inductive DRels (ρ : Ren) : List VDef → List Deferred → Prop where
  | nil : DRels ρ [] []
  | cons {d : VDef} {d' : Deferred} {l : List VDef} {l' : List Deferred} (h : DRel ρ d d') (t : DRels ρ l l') : DRels ρ (d :: l) (d' :: l')

theorem DRels.mono {ρ ρ' : Ren} (hρ : ρ.le ρ') : ∀ {l : List VDef} {l' : List Deferred}, DRels ρ l l' → DRels ρ' l l'
  | _, _, .nil => .nil
  | _, _, .cons h t => .cons (h.mono hρ) (DRels.mono hρ t)
theorem DRels.append {ρ : Ren} : ∀ {l : List VDef} {l' : List Deferred} {m : List VDef} {m' : List Deferred}, DRels ρ l l' → DRels ρ m m' → DRels ρ (l ++ m) (l' ++ m')
  | _, _, _, _, .nil, h => h
  | _, _, _, _, .cons h t, h' => .cons h (DRels.append t h')

inductive ERels (ρ : Ren) : List (VV × VV × Nat) → List MapEntry → Prop where
  | nil : ERels ρ [] []
  | cons {k v : VV} {k' v' : Value} {b : Nat} {l : List (VV × VV × Nat)} {l' : List MapEntry} (hk : VRel ρ k k') (hv : VRel ρ v v') (t : ERels ρ l l') :
      ERels ρ ((k, v, b) :: l) ({ key := k', val := v', born := b } :: l')

theorem ERels.mono {ρ ρ' : Ren} (hρ : ρ.le ρ') : ∀ {l : List (VV × VV × Nat)} {l' : List MapEntry}, ERels ρ l l' → ERels ρ' l l'
  | _, _, .nil => .nil
  | _, _, .cons hk hv t => .cons (hk.mono hρ) (hv.mono hρ) (ERels.mono hρ t)

structure LoopRel (ρ : Ren) (l : VLoop) (l' : Loop) : Prop where
  state : l'.state = l.state
  pending : l'.pending = l.pending
  fn : l'.fn = l.fn
  tmps : TRel ρ l.t l.n l'.tmps
  params : l'.params.toList = l.params
  assign : l'.assign = l.assign
  body : l'.body = l.body
  defers : ∃ b n, ρ l.defers = some (l'.defers, b, n)

/-- an object of ours and the model's, of which it takes the n cells from b on -/
inductive ORel (ρ : Ren) (b n : Nat) : VObj → Obj → Prop where
  | cells {c : Tr VV} {m : Nat} {t t' : TypeId} {ro mk : Bool} {cs : Array Value} {fr : Nat × Nat} (hsize : cs.size = b + n) (hm : m ≤ n)
      (hlow : ∀ i v, c.get i = some v → i < m) (hget : ∀ i v, c.get i = some v → ∃ v', cs[b + i]? = some v' ∧ VRel ρ v v')
      (hro : ro = false → fr.1 = fr.2 ∨ fr = (b + n, b + n + 1)) (hmk : mk = false → fr.1 = fr.2) : ORel ρ b n (.cells c m t ro mk) (.cells cs t' fr)
  | map {es : List (VV × VV × Nat)} {es' : Array MapEntry} {clock : Nat} (h : ERels ρ es es'.toList) : ORel ρ b n (.map es clock) (.map es' clock)
  | strIter (hb : b = 0) (s : ByteArray) (pos : Nat) : ORel ρ b n (.strIter s.data.toList pos) (.stringIter s pos)
  | mapIterNil (hb : b = 0) (since stepped : Nat) (seen : Array Nat) : ORel ρ b n (.mapIter none since seen.toList stepped) (.mapIter none since seen stepped)
  | mapIter {m r b' n' : Nat} (hb : b = 0) (since stepped : Nat) (seen : Array Nat) (h : ρ m = some (r, b', n')) : ORel ρ b n (.mapIter (some m) since seen.toList stepped) (.mapIter (some r) since seen stepped)
  | loop {l : VLoop} {l' : Loop} (h : LoopRel ρ l l') : ORel ρ b n (.loop l) (.loop l')
  | taken : ORel ρ b n (.deferred none) (.deferred none)
  | deferred {ds : List VDef} {ds' : List Deferred} (h : DRels ρ ds ds') : ORel ρ b n (.deferred (some ds)) (.deferred (some ds'))

theorem ORel.mono {ρ ρ' : Ren} (hρ : ρ.le ρ') {b n : Nat} {o : VObj} {o' : Obj} (h : ORel ρ b n o o') : ORel ρ' b n o o' := by
  cases h with
  | cells h1 h2 h3 h4 h5 h6 => exact .cells h1 h2 h3 (fun i v hv => let ⟨v', a, r⟩ := h4 i v hv; ⟨v', a, r.mono hρ⟩) h5 h6
  | map h => exact .map (h.mono hρ)
  | strIter hb => exact .strIter hb _ _
  | mapIterNil hb => exact .mapIterNil hb _ _ _
  | mapIter hb _ _ _ h => exact .mapIter hb _ _ _ (hρ _ _ h)
  | loop h => exact .loop ⟨h.state, h.pending, h.fn, h.tmps.mono hρ, h.params, h.assign, h.body, let ⟨b, n, h⟩ := h.defers; ⟨b, n, hρ _ _ h⟩⟩
  | taken => exact .taken
  | deferred h => exact .deferred (h.mono hρ)

def VObj.ro : VObj → Bool
  | .cells _ _ _ ro _ => ro
  | _ => false

structure Sim (G : Nat) (ρ : Ren) (S : St) (w : World) : Prop where
  obj : ∀ id o, S.h.get id = some o → ∃ r b n o', ρ id = some (r, b, n) ∧ w.heap[r]? = some o' ∧ ORel ρ b n o o'
  inj : ∀ i j oi oj r b n b' n', S.h.get i = some oi → S.h.get j = some oj → ρ i = some (r, b, n) → ρ j = some (r, b', n') → i = j
  fresh : ∀ id, S.nx ≤ id → ρ id = none
  low : ∀ id r b n, ρ id = some (r, b, n) → r < w.heap.size
  glob : ∀ g, g < G → ∃ n, ρ g = some (g, 0, n)

/-- the blocks that may be written -/
def WL (ρ : Ren) (S : St) (r : Nat) : Prop := ∃ id o b n, S.h.get id = some o ∧ o.ro = false ∧ ρ id = some (r, b, n)

/-- the blocks that lie in a state -/
def DL (ρ : Ren) (S : St) (r : Nat) : Prop := ∃ id o b n, S.h.get id = some o ∧ ρ id = some (r, b, n)

structure Goes (G : Nat) (ρ : Ren) (S : St) (w : World) (ρ' : Ren) (S' : St) (w' : World) : Prop where
  ext : ρ.le ρ'
  sim : Sim G ρ' S' w'
  size : w.heap.size ≤ w'.heap.size
  output : w'.output = w.output
  os : w'.os = w.os
  keep : ∀ r, r < w.heap.size → ¬ WL ρ S r → w'.heap[r]? = w.heap[r]?
  wl : ∀ r, r < w.heap.size → WL ρ' S' r → WL ρ S r
  dom : ∀ r, r < w.heap.size → DL ρ' S' r → DL ρ S r

theorem Goes.refl {G : Nat} {ρ : Ren} {S : St} {w : World} (h : Sim G ρ S w) : Goes G ρ S w ρ S w :=
  ⟨ρ.le_refl, h, Nat.le_refl _, rfl, rfl, fun _ _ _ => rfl, fun _ _ h => h, fun _ _ h => h⟩

theorem Goes.trans {G : Nat} {ρ ρ' ρ'' : Ren} {S S' S'' : St} {w w' w'' : World} (h : Goes G ρ S w ρ' S' w') (h' : Goes G ρ' S' w' ρ'' S'' w'') : Goes G ρ S w ρ'' S'' w'' where
  ext := h.ext.le_trans h'.ext
  sim := h'.sim
  size := Nat.le_trans h.size h'.size
  output := h'.output.trans h.output
  os := h'.os.trans h.os
  keep r hr hw := by
    rw [h'.keep r (Nat.lt_of_lt_of_le hr h.size) (fun hx => hw (h.wl r hr hx)), h.keep r hr hw]
  wl r hr hx := h.wl r hr (h'.wl r (Nat.lt_of_lt_of_le hr h.size) hx)
  dom r hr hx := h.dom r hr (h'.dom r (Nat.lt_of_lt_of_le hr h.size) hx)

end Go.Vm
