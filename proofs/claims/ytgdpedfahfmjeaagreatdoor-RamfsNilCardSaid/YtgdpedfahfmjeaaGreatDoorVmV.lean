/-
  A virtual semantics of the model's code (22): frames, callers, how a machine arrives.
-/
import Derived.Test.YtgdpedfahfmjeaaGreatDoorVmU
import Derived.AtR
namespace Go.Vm
variable {P : Program} {G : Nat} {ρ ρ' : Ren} {S : St} {w : World}

inductive PanRels (ρ : Ren) : List VPan → List PanicEntry → Prop where
  | nil : PanRels ρ [] []
  | cons {p : VPan} {v' : Value} {l : List VPan} {l' : List PanicEntry} (h : VRel ρ p.v v') (t : PanRels ρ l l') : PanRels ρ (p :: l) ({ v := v', recovered := p.recovered } :: l')

theorem PanRels.mono (hρ : ρ.le ρ') : ∀ {l : List VPan} {l' : List PanicEntry}, PanRels ρ l l' → PanRels ρ' l l'
  | _, _, .nil => .nil
  | _, _, .cons h t => .cons (h.mono hρ) (PanRels.mono hρ t)
theorem PanRels.append : ∀ {l : List VPan} {l' : List PanicEntry} {m : List VPan} {m' : List PanicEntry}, PanRels ρ l l' → PanRels ρ m m' → PanRels ρ (l ++ m) (l' ++ m')
  | _, _, _, _, .nil, h => h
  | _, _, _, _, .cons h t, h' => .cons h (PanRels.append t h')
theorem PanRels.goexit : ∀ {l : List VPan} {l' : List PanicEntry}, PanRels ρ l l' → l'.dropWhile (!·.goexit) = []
  | _, _, .nil => rfl
  | _, _, .cons _ t => by simp [List.dropWhile_cons, PanRels.goexit t]

/-- the frames behind a frame: fixed; or with one ahead whose panic may be recovered -/
inductive Callers where
  | fixed (cs : List Frame)
  | over (c : Frame) (rest : List Frame)

def Callers.at : Callers → Option (List PanicEntry) → List Frame
  | .fixed cs, _ => cs
  | .over c rest, p => { c with mode := .panicking (p.getD []) } :: rest

inductive RcRel (ρ : Ren) (k : CallKind) : Callers → Option (List VPan) → Option (List PanicEntry) → Prop where
  | fixed {cs : List Frame} (h : ∀ fr : Frame, fr.kind = k → tryRecover fr cs = none) : RcRel ρ k (.fixed cs) none none
  | over {c : Frame} {rest : List Frame} {ch : List VPan} {ch' : List PanicEntry} (hk : k = .deferred) (h : PanRels ρ ch ch') : RcRel ρ k (.over c rest) (some ch) (some ch')

theorem RcRel.mono (hρ : ρ.le ρ') {k : CallKind} {C : Callers} {rc : Option (List VPan)} {p : Option (List PanicEntry)} (h : RcRel ρ k C rc p) : RcRel ρ' k C rc p := by
  cases h with
  | fixed h => exact .fixed h
  | over hk h => exact .over hk (h.mono hρ)

theorem RcRel.normal (cs : List Frame) : RcRel ρ .normal (.fixed cs) none none := .fixed fun fr h => by
  cases cs <;> simp [tryRecover, h]

/-- a frame's slots and deferred calls -/
def ARel (ρ : Ren) (fr : Fr) (a : Act) : Prop := TRel ρ fr.t fr.n a.tmps ∧ DRels ρ fr.ds a.defers

theorem ARel.mono (hρ : ρ.le ρ') {fr : Fr} {a : Act} (h : ARel ρ fr a) : ARel ρ' fr a := ⟨h.1.mono hρ, h.2.mono hρ⟩

theorem ARel.ev (hS : Sim G ρ S w) {fr : Fr} {a : Act} (h : ARel ρ fr a) (x : Operand) : VRel ρ (fr.ev G x) (a.eval x) := evO_rel hS (fun t v ht => h.1.2 t v ht) x

theorem TRel.set {t : Tr VV} {n : Nat} {tmps : Array Value} (h : TRel ρ t n tmps) {d : Nat} (hd : d < n) {v : VV} {v' : Value} (hv : VRel ρ v v') : TRel ρ (t.set d v) n (tmps.setIfInBounds d v') := by
  refine ⟨by simp [h.1], fun i u hu => ?_⟩
  rw [Tr.get_set] at hu
  rw [Array.getD_eq_getD_getElem?, getElem?_setIfInBounds]
  by_cases e : i = d
  · subst e
    simp only [if_true, Option.some.injEq] at hu
    subst hu
    rw [if_pos ⟨rfl, by rw [h.1]; exact hd⟩]
    exact hv
  · simp only [e, if_false] at hu
    rw [if_neg (by rintro ⟨q, _⟩; exact e q.symm), ← Array.getD_eq_getD_getElem?]
    exact h.2 i u hu

theorem put_rel {fr fr' : Fr} {dst : Option Tmp} {v : VV} {a : Act} {v' : Value} (h : fr.put dst v = some fr') (ha : ARel ρ fr a) (hv : VRel ρ v v') : ARel ρ fr' (a.put dst v') ∧ fr'.rc = fr.rc := by
  unfold Fr.put at h
  cases dst with
  | none =>
    simp only [Option.some.injEq] at h
    subst h
    exact ⟨ha, rfl⟩
  | some d =>
    simp only at h
    cases hb : Nat.blt d fr.n with
    | false => simp [hb] at h
    | true =>
      simp only [hb, VV.strict_eq, Tr.with_eq, Option.some.injEq] at h
      subst h
      exact ⟨⟨ha.1.set (by simpa [Nat.blt_eq] using hb) hv, ha.2⟩, rfl⟩

theorem wanted_rel {ops : Array Oper} {o : Oper} {look : Tmp → Option VV} {tmps : Array Value} {q : Bool} (hl : ∀ t v, look t = some v → VRel ρ v (tmps.getD t undef)) (h : wantedV ops o look = some q) : Region.wanted o (yielded ops tmps) = q := by
  unfold wantedV at h
  unfold Region.wanted
  cases hg : o.guard with
  | none => simp only [hg, Option.some.injEq] at h; exact h
  | some p =>
    obtain ⟨j, want⟩ := p
    simp only [hg] at h
    cases hj : ops[j]? with
    | none => simp only [hj, Option.some.injEq] at h; subst h; simp [yielded, hj]
    | some g =>
      simp only [hj] at h
      cases hd : g.dst with
      | none => simp only [hd, Option.some.injEq] at h; subst h; simp [yielded, hj, hd]
      | some d =>
        simp only [hd] at h
        cases hv : look d with
        | none => simp [hv] at h
        | some v =>
          simp only [hv] at h
          have hr := hl d v hv
          -- what the slot holds
          have key : ∀ x, tmps.getD d undef = x → (∀ b, x ≠ .bool b) → yielded ops tmps j = none := by
            intro x hx hnb
            simp only [yielded, hj, Option.bind_some, hd]
            rw [Array.getD_eq_getD_getElem?] at hx
            cases ht : tmps[d]? with
            | none => rfl
            | some u =>
              rw [ht] at hx
              simp only [Option.getD_some] at hx
              subst hx
              cases u <;> first | rfl | exact absurd rfl (hnb _)
          generalize hx : tmps.getD d undef = x at hr
          cases hr <;> simp only [Option.some.injEq, reduceCtorEq] at h
          case bool b =>
            subst h
            have : yielded ops tmps j = some b := by
              simp only [yielded, hj, Option.bind_some, hd]
              rw [Array.getD_eq_getD_getElem?] at hx
              cases ht : tmps[d]? with
              | none => rw [ht] at hx; simp [undef] at hx
              | some u => rw [ht] at hx; simp only [Option.getD_some] at hx; subst hx; rfl
            show (yielded ops tmps j == some want) = _
            rw [this]
            cases b <;> cases want <;> rfl
          all_goals
            subst h
            show (yielded ops tmps j == some want) = _
            rw [key _ hx (by simp)]
            rfl

/-- how the machine leaves a piece of code -/
def Reach (P : Program) (m : Machine) (b : Frame) (k : List Item) (cs : List Frame) (ρ : Ren) : Ex → Act → World → Prop
  | .normal, a, w => Steps P m (lone (b.atR a k) cs w)
  | .exit id, a, w => ∃ k', exitTo id k' = exitTo id k ∧ Steps P m (lone (b.atR a (.code (.exit id) :: k')) cs w)
  | .ret, a, w => ∃ k', Steps P m (lone (b.atR a (.code .ret :: k')) cs w)
  | .panic ch, a, w => ∃ k' ch', PanRels ρ ch ch' ∧ Steps P m (lone { b.atR a k' with mode := .panicking ch' } cs w)

theorem Reach.of_steps {m m1 : Machine} {b : Frame} {k : List Item} {cs : List Frame} {x : Ex} {a : Act} (h : Steps P m m1) (hr : Reach P m1 b k cs ρ x a w) : Reach P m b k cs ρ x a w := by
  cases x with
  | normal => exact h.trans hr
  | exit id => obtain ⟨k', h1, h2⟩ := hr; exact ⟨k', h1, h.trans h2⟩
  | ret => obtain ⟨k', h1⟩ := hr; exact ⟨k', h.trans h1⟩
  | panic ch => obtain ⟨k', ch', h1, h2⟩ := hr; exact ⟨k', ch', h1, h.trans h2⟩

structure Ctx (ρ : Ren) (fi : FI) (b : Frame) : Prop where
  fn : b.fn = fi.fn
  round : match fi.round with
    | none => b.roundOf = none
    | some l => b.kind = .normal ∧ ∃ r n k, ρ l = some (r, n, k) ∧ b.roundOf = some r

theorem Ctx.mono (hρ : ρ.le ρ') {fi : FI} {b : Frame} (h : Ctx ρ fi b) : Ctx ρ' fi b := ⟨h.fn, by
  have := h.round
  cases hf : fi.round with
  | none => simpa [hf] using this
  | some l => simp only [hf] at this ⊢; obtain ⟨q, r, n, k, h1, h2⟩ := this; exact ⟨q, r, n, k, hρ _ _ h1, h2⟩⟩

/-- one of the outcomes of a piece of code is the machine's -/
def CodeIs (P : Program) (G : Nat) (L : CodeR) (ρ : Ren) (S : St) (w : World) (b : Frame) (C : Callers) (m : Machine) (k : List Item) : Prop :=
  ∃ x fr' S', (x, fr', S') ∈ L ∧ ∃ ρ' w' p' a', Goes G ρ S w ρ' S' w' ∧ RcRel ρ' b.kind C fr'.rc p' ∧ ARel ρ' fr' a' ∧ Reach P m b k (C.at p') ρ' x a' w'

theorem CodeIs.of_steps {L : CodeR} {b : Frame} {C : Callers} {m m1 : Machine} {k : List Item} (h : Steps P m m1) (hc : CodeIs P G L ρ S w b C m1 k) : CodeIs P G L ρ S w b C m k := by
  obtain ⟨x, fr', S', h1, ρ', w', p', a', h2, h3, h4, h5⟩ := hc
  exact ⟨x, fr', S', h1, ρ', w', p', a', h2, h3, h4, h5.of_steps h⟩

/-- behind a step of ours -/
theorem CodeIs.of_goes {L L' : CodeR} {b : Frame} {C : Callers} {m : Machine} {k : List Item} {ρ1 : Ren} {S1 : St} {w1 : World} (h : Goes G ρ S w ρ1 S1 w1) (hc : CodeIs P G L ρ1 S1 w1 b C m k) (hL : ∀ y ∈ L, y ∈ L') : CodeIs P G L' ρ S w b C m k := by
  obtain ⟨x, fr', S', h1, ρ', w', p', a', h2, h3, h4, h5⟩ := hc
  exact ⟨x, fr', S', hL _ h1, ρ', w', p', a', h.trans h2, h3, h4, h5⟩

def CodeSound (P : Program) (code : FI → Code → Fr → St → Option CodeR) : Prop :=
  ∀ fi c fr S L, code fi c fr S = some L → ∀ ρ w (b : Frame) C p (a : Act) k, Sim P.globals.size ρ S w → Ctx ρ fi b → RcRel ρ b.kind C fr.rc p → ARel ρ fr a →
    CodeIs P P.globals.size L ρ S w b C (lone (b.atR a (.code c :: k)) (C.at p) w) k

/-- how a frame that has done stands -/
def Left (P : Program) (ρ : Ren) (f : FuncId) (kind : CallKind) (fr : Frame) (w : World) : En → Prop
  | .returned v => fr.mode = .returning ∧ fr.defers = [] ∧ fr.kind = kind ∧ fr.fn = f ∧ ∃ fn v', P.funcs[f]? = some fn ∧ (results fn fr.tmps).run P w = .ok v' w ∧ VRel ρ v v'
  | .panicked ch => fr.defers = [] ∧ fr.kind = kind ∧ fr.fn = f ∧ (∃ fn, P.funcs[f]? = some fn) ∧ ∃ ch', fr.mode = .panicking ch' ∧ PanRels ρ ch ch'

def CallIs (P : Program) (G : Nat) (L : CallR) (ρ : Ren) (S : St) (w : World) (f : FuncId) (kind : CallKind) (C : Callers) (m : Machine) : Prop :=
  ∃ e rc' S', (e, rc', S') ∈ L ∧ ∃ ρ' w' p' fr, Goes G ρ S w ρ' S' w' ∧ RcRel ρ' kind C rc' p' ∧ Steps P m (lone fr (C.at p') w') ∧ Left P ρ' f kind fr w' e

def CallSound (P : Program) (call : FuncId → List VV → Option (List VPan) → St → Option CallR) : Prop :=
  ∀ f args rc S L, call f args rc S = some L → ∀ ρ w (kind : CallKind) C p (args' : Array Value), Sim P.globals.size ρ S w → RcRel ρ kind C rc p → VRels ρ args args'.toList → (kind = .normal ∨ kind = .deferred) →
    CallIs P P.globals.size L ρ S w f kind C (lone (Frame.enter P f args' kind) (C.at p) w)

/-- a frame's way out: deferred calls -/
def ModeRel (ρ : Ren) : Option (List VPan) → FrameMode → Prop
  | none, m => m = .returning
  | some ch, m => ∃ ch', m = .panicking ch' ∧ PanRels ρ ch ch'

def UnwSound (P : Program) (unw : FuncId → Option (List VPan) → Fr → St → Option CallR) : Prop :=
  ∀ f mode fr S L, unw f mode fr S = some L → ∀ ρ w C p (b : Frame) (a : Act) k md, Sim P.globals.size ρ S w → RcRel ρ b.kind C fr.rc p → ARel ρ fr a → ModeRel ρ mode md → b.fn = f → (b.kind = .normal ∨ b.kind = .deferred) → b.roundOf = none → (∃ fn, P.funcs[f]? = some fn) →
    CallIs P P.globals.size L ρ S w f b.kind C (lone { b.atR a k with mode := md } (C.at p) w)

/-- what a round of a range over a function comes to: its caller goes on -/
def RoundIs (P : Program) (G : Nat) (L : CallR) (ρ : Ren) (S : St) (w : World) (c : Frame) (cs : List Frame) (m : Machine) : Prop :=
  ∃ e rc' S', (e, rc', S') ∈ L ∧ ∃ ρ' w', Goes G ρ S w ρ' S' w' ∧ match e with
    | .returned v => ∃ v', VRel ρ' v v' ∧ Steps P m (lone (c.finish v') cs w')
    | .panicked ch => ∃ ch', PanRels ρ' ch ch' ∧ Steps P m (lone (c.raise ch') cs w')

def RoundSound (P : Program) (round : Nat → List VV → St → Option CallR) : Prop :=
  ∀ l args S L, round l args S = some L → ∀ ρ w r n k (args' : Array Value), Sim P.globals.size ρ S w → ρ l = some (r, n, k) → VRels ρ args args'.toList →
    ∃ fn tmps assign body w0, (Instr.yield r args').run P w = .ok (.round r fn tmps assign body) w0 ∧ w0 = w ∧ ∀ c cs, RoundIs P P.globals.size L ρ S w c cs (lone (Frame.round r fn tmps assign body .normal) (c :: cs) w)

/-- all four -/
structure RecSound (P : Program) (r : Rec) : Prop where
  code : CodeSound P r.code
  call : CallSound P r.call
  unw : UnwSound P r.unw
  round : RoundSound P r.round

/-- what stands in a function's place is what its call comes to -/
def OvSound (P : Program) (ov : Ov) : Prop :=
  ∀ f g args S v S', ov f = some g → g args S = some (v, S') → ∀ ρ w (args' : Array Value), Sim P.globals.size ρ S w → VRels ρ args args'.toList →
    (∃ ρ' v' w', (callFunc f args').run P w = .ok (.value v') w' ∧ VRel ρ' v v' ∧ Goes P.globals.size ρ S w ρ' S' w') ∨
    ((callFunc f args').run P w = .ok (.enter f args') w ∧ ∀ cs, ∃ ρ' w' fr, Goes P.globals.size ρ S w ρ' S' w' ∧ Steps P (lone (Frame.enter P f args' .normal) cs w) (lone fr cs w') ∧ Left P ρ' f .normal fr w' (.returned v))

theorem bindL_spec {α β : Type} {x : Option (List α)} {f : α → Option (List β)} {R : List β} (h : bindL x f = some R) : ∃ l, x = some l ∧ ∀ a ∈ l, ∃ r, f a = some r ∧ ∀ y ∈ r, y ∈ R := by
  unfold bindL at h
  cases x with
  | none => simp at h
  | some l =>
    simp only at h
    refine ⟨l, rfl, ?_⟩
    induction l generalizing R with
    | nil => intro a ha; cases ha
    | cons a l ih =>
      cases l with
      | nil =>
        simp only [bindL.go] at h
        intro y hy
        rw [List.mem_singleton.1 hy]
        exact ⟨R, h, fun _ q => q⟩
      | cons a2 l =>
        rw [bindL.go] at h
        cases hf : f a with
        | none => simp [hf] at h
        | some r =>
          cases hg : bindL.go f (a2 :: l) with
          | none => simp [hf, hg] at h
          | some s =>
            simp only [hf, hg, Option.some.injEq] at h
            subst h
            intro y hy
            rcases List.mem_cons.1 hy with rfl | hy
            · exact ⟨r, hf, fun z hz => List.mem_append_left _ hz⟩
            · obtain ⟨q, h1, h2⟩ := ih hg y hy
              exact ⟨q, h1, fun z hz => List.mem_append_right _ (h2 z hz)⟩

end Go.Vm
