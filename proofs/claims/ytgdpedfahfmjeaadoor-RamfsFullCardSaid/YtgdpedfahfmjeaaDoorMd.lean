/-
  What is proved here: frames, callers, code are as virtual ones. No condition.
-/
import Derived.Test.YtgdpedfahfmjeaaDoorMc
import Derived.AtR
import Derived.RangeFuncNested
import Derived.Defers
import Derived.Orders

/-
  A virtual semantics of the model's code (22): frames, callers, how a machine arrives.
-/
namespace Go.Vm
variable {P : Program} {G : Nat} {ρ ρ' : Ren} {S : St} {w : World}

inductive PanRels (ρ : Ren) : List VPan → List PanicEntry → Prop where
  | nil : PanRels ρ [] []
  | cons {p : VPan} {v' : Value} {l : List VPan} {l' : List PanicEntry} (h : VRel ρ p.v v') (t : PanRels ρ l l') : PanRels ρ (p :: l) ({ v := v', recovered := p.recovered } :: l')

theorem PanRels.mono (hρ : ρ.le ρ') : ∀ {l : List VPan} {l' : List PanicEntry}, PanRels ρ l l' → PanRels ρ' l l'
  | _, _, .nil => .nil
  | _, _, .cons h t => .cons (h.mono hρ) (PanRels.mono hρ t)
theorem PanRels.append : ∀ {l : List VPan} {l' : List PanicEntry} {m : List VPan} {m' : List PanicEntry}, PanRels ρ l l' → PanRels ρ m m' → PanRels ρ (l ++ m) (l' ++ m')
  | _, _, _, _, .nil, h => h
  | _, _, _, _, .cons h t, h' => .cons h (PanRels.append t h')
theorem PanRels.goexit : ∀ {l : List VPan} {l' : List PanicEntry}, PanRels ρ l l' → l'.dropWhile (!·.goexit) = []
  | _, _, .nil => rfl
  | _, _, .cons _ t => by simp [List.dropWhile_cons, PanRels.goexit t]

/-- the frames behind a frame: fixed; or with one ahead whose panic may be recovered -/
inductive Callers where
  | fixed (cs : List Frame)
  | over (c : Frame) (rest : List Frame)

def Callers.at : Callers → Option (List PanicEntry) → List Frame
  | .fixed cs, _ => cs
  | .over c rest, p => { c with mode := .panicking (p.getD []) } :: rest

inductive RcRel (ρ : Ren) (k : CallKind) : Callers → Option (List VPan) → Option (List PanicEntry) → Prop where
  | fixed {cs : List Frame} (h : ∀ fr : Frame, fr.kind = k → tryRecover fr cs = none) : RcRel ρ k (.fixed cs) none none
  | over {c : Frame} {rest : List Frame} {ch : List VPan} {ch' : List PanicEntry} (hk : k = .deferred) (h : PanRels ρ ch ch') : RcRel ρ k (.over c rest) (some ch) (some ch')

theorem RcRel.mono (hρ : ρ.le ρ') {k : CallKind} {C : Callers} {rc : Option (List VPan)} {p : Option (List PanicEntry)} (h : RcRel ρ k C rc p) : RcRel ρ' k C rc p := by
  cases h with
  | fixed h => exact .fixed h
  | over hk h => exact .over hk (h.mono hρ)

theorem RcRel.normal (cs : List Frame) : RcRel ρ .normal (.fixed cs) none none := .fixed fun fr h => by
  cases cs <;> simp [tryRecover, h]

/-- a frame's slots and deferred calls -/
def ARel (ρ : Ren) (fr : Fr) (a : Act) : Prop := TRel ρ fr.t fr.n a.tmps ∧ DRels ρ fr.ds a.defers

theorem ARel.mono (hρ : ρ.le ρ') {fr : Fr} {a : Act} (h : ARel ρ fr a) : ARel ρ' fr a := ⟨h.1.mono hρ, h.2.mono hρ⟩

theorem ARel.ev (hS : Sim G ρ S w) {fr : Fr} {a : Act} (h : ARel ρ fr a) (x : Operand) : VRel ρ (fr.ev G x) (a.eval x) := evO_rel hS (fun t v ht => h.1.2 t v ht) x

theorem TRel.set {t : Tr VV} {n : Nat} {tmps : Array Value} (h : TRel ρ t n tmps) {d : Nat} (hd : d < n) {v : VV} {v' : Value} (hv : VRel ρ v v') : TRel ρ (t.set d v) n (tmps.setIfInBounds d v') := by
  refine ⟨by simp [h.1], fun i u hu => ?_⟩
  rw [Tr.get_set] at hu
  rw [Array.getD_eq_getD_getElem?, getElem?_setIfInBounds]
  by_cases e : i = d
  · subst e
    simp only [if_true, Option.some.injEq] at hu
    subst hu
    rw [if_pos ⟨rfl, by rw [h.1]; exact hd⟩]
    exact hv
  · simp only [e, if_false] at hu
    rw [if_neg (by rintro ⟨q, _⟩; exact e q.symm), ← Array.getD_eq_getD_getElem?]
    exact h.2 i u hu

theorem put_rel {fr fr' : Fr} {dst : Option Tmp} {v : VV} {a : Act} {v' : Value} (h : fr.put dst v = some fr') (ha : ARel ρ fr a) (hv : VRel ρ v v') : ARel ρ fr' (a.put dst v') ∧ fr'.rc = fr.rc := by
  unfold Fr.put at h
  cases dst with
  | none =>
    simp only [Option.some.injEq] at h
    subst h
    exact ⟨ha, rfl⟩
  | some d =>
    simp only at h
    cases hb : Nat.blt d fr.n with
    | false => simp [hb] at h
    | true =>
      simp only [hb, VV.strict_eq, Tr.with_eq, Option.some.injEq] at h
      subst h
      exact ⟨⟨ha.1.set (by simpa [Nat.blt_eq] using hb) hv, ha.2⟩, rfl⟩

theorem wanted_rel {ops : Array Oper} {o : Oper} {look : Tmp → Option VV} {tmps : Array Value} {q : Bool} (hl : ∀ t v, look t = some v → VRel ρ v (tmps.getD t undef)) (h : wantedV ops o look = some q) : Region.wanted o (yielded ops tmps) = q := by
  unfold wantedV at h
  unfold Region.wanted
  cases hg : o.guard with
  | none => simp only [hg, Option.some.injEq] at h; exact h
  | some p =>
    obtain ⟨j, want⟩ := p
    simp only [hg] at h
    cases hj : ops[j]? with
    | none => simp only [hj, Option.some.injEq] at h; subst h; simp [yielded, hj]
    | some g =>
      simp only [hj] at h
      cases hd : g.dst with
      | none => simp only [hd, Option.some.injEq] at h; subst h; simp [yielded, hj, hd]
      | some d =>
        simp only [hd] at h
        cases hv : look d with
        | none => simp [hv] at h
        | some v =>
          simp only [hv] at h
          have hr := hl d v hv
          -- what the slot holds
          have key : ∀ x, tmps.getD d undef = x → (∀ b, x ≠ .bool b) → yielded ops tmps j = none := by
            intro x hx hnb
            simp only [yielded, hj, Option.bind_some, hd]
            rw [Array.getD_eq_getD_getElem?] at hx
            cases ht : tmps[d]? with
            | none => rfl
            | some u =>
              rw [ht] at hx
              simp only [Option.getD_some] at hx
              subst hx
              cases u <;> first | rfl | exact absurd rfl (hnb _)
          generalize hx : tmps.getD d undef = x at hr
          cases hr <;> simp only [Option.some.injEq, reduceCtorEq] at h
          case bool b =>
            subst h
            have : yielded ops tmps j = some b := by
              simp only [yielded, hj, Option.bind_some, hd]
              rw [Array.getD_eq_getD_getElem?] at hx
              cases ht : tmps[d]? with
              | none => rw [ht] at hx; simp [undef] at hx
              | some u => rw [ht] at hx; simp only [Option.getD_some] at hx; subst hx; rfl
            show (yielded ops tmps j == some want) = _
            rw [this]
            cases b <;> cases want <;> rfl
          all_goals
            subst h
            show (yielded ops tmps j == some want) = _
            rw [key _ hx (by simp)]
            rfl

/-- how the machine leaves a piece of code -/
def Reach (P : Program) (m : Machine) (b : Frame) (k : List Item) (cs : List Frame) (ρ : Ren) : Ex → Act → World → Prop
  | .normal, a, w => Steps P m (lone (b.atR a k) cs w)
  | .exit id, a, w => ∃ k', exitTo id k' = exitTo id k ∧ Steps P m (lone (b.atR a (.code (.exit id) :: k')) cs w)
  | .ret, a, w => ∃ k', Steps P m (lone (b.atR a (.code .ret :: k')) cs w)
  | .panic ch, a, w => ∃ k' ch', PanRels ρ ch ch' ∧ Steps P m (lone { b.atR a k' with mode := .panicking ch' } cs w)

theorem Reach.of_steps {m m1 : Machine} {b : Frame} {k : List Item} {cs : List Frame} {x : Ex} {a : Act} (h : Steps P m m1) (hr : Reach P m1 b k cs ρ x a w) : Reach P m b k cs ρ x a w := by
  cases x with
  | normal => exact h.trans hr
  | exit id => obtain ⟨k', h1, h2⟩ := hr; exact ⟨k', h1, h.trans h2⟩
  | ret => obtain ⟨k', h1⟩ := hr; exact ⟨k', h.trans h1⟩
  | panic ch => obtain ⟨k', ch', h1, h2⟩ := hr; exact ⟨k', ch', h1, h.trans h2⟩

structure Ctx (ρ : Ren) (fi : FI) (b : Frame) : Prop where
  fn : b.fn = fi.fn
  round : match fi.round with
    | none => b.roundOf = none
    | some l => b.kind = .normal ∧ ∃ r n k, ρ l = some (r, n, k) ∧ b.roundOf = some r

theorem Ctx.mono (hρ : ρ.le ρ') {fi : FI} {b : Frame} (h : Ctx ρ fi b) : Ctx ρ' fi b := ⟨h.fn, by
  have := h.round
  cases hf : fi.round with
  | none => simpa [hf] using this
  | some l => simp only [hf] at this ⊢; obtain ⟨q, r, n, k, h1, h2⟩ := this; exact ⟨q, r, n, k, hρ _ _ h1, h2⟩⟩

/-- one of the outcomes of a piece of code is the machine's -/
def CodeIs (P : Program) (G : Nat) (L : CodeR) (ρ : Ren) (S : St) (w : World) (b : Frame) (C : Callers) (m : Machine) (k : List Item) : Prop :=
  ∃ x fr' S', (x, fr', S') ∈ L ∧ ∃ ρ' w' p' a', Goes G ρ S w ρ' S' w' ∧ RcRel ρ' b.kind C fr'.rc p' ∧ ARel ρ' fr' a' ∧ Reach P m b k (C.at p') ρ' x a' w'

theorem CodeIs.of_steps {L : CodeR} {b : Frame} {C : Callers} {m m1 : Machine} {k : List Item} (h : Steps P m m1) (hc : CodeIs P G L ρ S w b C m1 k) : CodeIs P G L ρ S w b C m k := by
  obtain ⟨x, fr', S', h1, ρ', w', p', a', h2, h3, h4, h5⟩ := hc
  exact ⟨x, fr', S', h1, ρ', w', p', a', h2, h3, h4, h5.of_steps h⟩

/-- behind a step of ours -/
theorem CodeIs.of_goes {L L' : CodeR} {b : Frame} {C : Callers} {m : Machine} {k : List Item} {ρ1 : Ren} {S1 : St} {w1 : World} (h : Goes G ρ S w ρ1 S1 w1) (hc : CodeIs P G L ρ1 S1 w1 b C m k) (hL : ∀ y ∈ L, y ∈ L') : CodeIs P G L' ρ S w b C m k := by
  obtain ⟨x, fr', S', h1, ρ', w', p', a', h2, h3, h4, h5⟩ := hc
  exact ⟨x, fr', S', hL _ h1, ρ', w', p', a', h.trans h2, h3, h4, h5⟩

def CodeSound (P : Program) (code : FI → Code → Fr → St → Option CodeR) : Prop :=
  ∀ fi c fr S L, code fi c fr S = some L → ∀ ρ w (b : Frame) C p (a : Act) k, Sim P.globals.size ρ S w → Ctx ρ fi b → RcRel ρ b.kind C fr.rc p → ARel ρ fr a →
    CodeIs P P.globals.size L ρ S w b C (lone (b.atR a (.code c :: k)) (C.at p) w) k

/-- how a frame that has done stands -/
def Left (P : Program) (ρ : Ren) (f : FuncId) (kind : CallKind) (fr : Frame) (w : World) : En → Prop
  | .returned v => fr.mode = .returning ∧ fr.defers = [] ∧ fr.kind = kind ∧ fr.fn = f ∧ ∃ fn v', P.funcs[f]? = some fn ∧ (results fn fr.tmps).run P w = .ok v' w ∧ VRel ρ v v'
  | .panicked ch => fr.defers = [] ∧ fr.kind = kind ∧ fr.fn = f ∧ (∃ fn, P.funcs[f]? = some fn) ∧ ∃ ch', fr.mode = .panicking ch' ∧ PanRels ρ ch ch'

def CallIs (P : Program) (G : Nat) (L : CallR) (ρ : Ren) (S : St) (w : World) (f : FuncId) (kind : CallKind) (C : Callers) (m : Machine) : Prop :=
  ∃ e rc' S', (e, rc', S') ∈ L ∧ ∃ ρ' w' p' fr, Goes G ρ S w ρ' S' w' ∧ RcRel ρ' kind C rc' p' ∧ Steps P m (lone fr (C.at p') w') ∧ Left P ρ' f kind fr w' e

def CallSound (P : Program) (call : FuncId → List VV → Option (List VPan) → St → Option CallR) : Prop :=
  ∀ f args rc S L, call f args rc S = some L → ∀ ρ w (kind : CallKind) C p (args' : Array Value), Sim P.globals.size ρ S w → RcRel ρ kind C rc p → VRels ρ args args'.toList → (kind = .normal ∨ kind = .deferred) →
    CallIs P P.globals.size L ρ S w f kind C (lone (Frame.enter P f args' kind) (C.at p) w)

/-- a frame's way out: deferred calls -/
def ModeRel (ρ : Ren) : Option (List VPan) → FrameMode → Prop
  | none, m => m = .returning
  | some ch, m => ∃ ch', m = .panicking ch' ∧ PanRels ρ ch ch'

def UnwSound (P : Program) (unw : FuncId → Option (List VPan) → Fr → St → Option CallR) : Prop :=
  ∀ f mode fr S L, unw f mode fr S = some L → ∀ ρ w C p (b : Frame) (a : Act) k md, Sim P.globals.size ρ S w → RcRel ρ b.kind C fr.rc p → ARel ρ fr a → ModeRel ρ mode md → b.fn = f → (b.kind = .normal ∨ b.kind = .deferred) → b.roundOf = none → (∃ fn, P.funcs[f]? = some fn) →
    CallIs P P.globals.size L ρ S w f b.kind C (lone { b.atR a k with mode := md } (C.at p) w)

/-- what a round of a range over a function comes to: its caller goes on -/
def RoundIs (P : Program) (G : Nat) (L : CallR) (ρ : Ren) (S : St) (w : World) (c : Frame) (cs : List Frame) (m : Machine) : Prop :=
  ∃ e rc' S', (e, rc', S') ∈ L ∧ ∃ ρ' w', Goes G ρ S w ρ' S' w' ∧ match e with
    | .returned v => ∃ v', VRel ρ' v v' ∧ Steps P m (lone (c.finish v') cs w')
    | .panicked ch => ∃ ch', PanRels ρ' ch ch' ∧ Steps P m (lone (c.raise ch') cs w')

def RoundSound (P : Program) (round : Nat → List VV → St → Option CallR) : Prop :=
  ∀ l args S L, round l args S = some L → ∀ ρ w r n k (args' : Array Value), Sim P.globals.size ρ S w → ρ l = some (r, n, k) → VRels ρ args args'.toList →
    ∃ fn tmps assign body w0, (Instr.yield r args').run P w = .ok (.round r fn tmps assign body) w0 ∧ w0 = w ∧ ∀ c cs, RoundIs P P.globals.size L ρ S w c cs (lone (Frame.round r fn tmps assign body .normal) (c :: cs) w)

/-- all four -/
structure RecSound (P : Program) (r : Rec) : Prop where
  code : CodeSound P r.code
  call : CallSound P r.call
  unw : UnwSound P r.unw
  round : RoundSound P r.round

theorem bindL_spec {α β : Type} {x : Option (List α)} {f : α → Option (List β)} {R : List β} (h : bindL x f = some R) : ∃ l, x = some l ∧ ∀ a ∈ l, ∃ r, f a = some r ∧ ∀ y ∈ r, y ∈ R := by
  unfold bindL at h
  cases x with
  | none => simp at h
  | some l =>
    simp only at h
    refine ⟨l, rfl, ?_⟩
    induction l generalizing R with
    | nil => intro a ha; cases ha
    | cons a l ih =>
      cases l with
      | nil =>
        simp only [bindL.go] at h
        intro y hy
        rw [List.mem_singleton.1 hy]
        exact ⟨R, h, fun _ q => q⟩
      | cons a2 l =>
        rw [bindL.go] at h
        cases hf : f a with
        | none => simp [hf] at h
        | some r =>
          cases hg : bindL.go f (a2 :: l) with
          | none => simp [hf, hg] at h
          | some s =>
            simp only [hf, hg, Option.some.injEq] at h
            subst h
            intro y hy
            rcases List.mem_cons.1 hy with rfl | hy
            · exact ⟨r, hf, fun z hz => List.mem_append_left _ hz⟩
            · obtain ⟨q, h1, h2⟩ := ih hg y hy
              exact ⟨q, h1, fun z hz => List.mem_append_right _ (h2 z hz)⟩

end Go.Vm

/-
  A virtual semantics of the model's code (23): calls, operations in the text's order.
-/
namespace Go.Vm
variable {P : Program} {ρ ρ' : Ren} {S : St} {w : World}

/-- no function of the program is the one that counts goroutines -/
def NoCount (P : Program) : Prop := ∀ (f : FuncId) (fn : Func), P.funcs[f]? = some fn → fn.name ≠ "runtime.NumGoroutine"

/-- what applying an operation comes to, from a frame that waits for a value -/
def Applies (P : Program) (c : Frame) (cs : List Frame) (s : Sem Next) (w : World) (m : Machine) : Prop :=
  ∃ fr1 cs1 w1, (stepG.apply P true c cs none s w).bare = .go { frame := fr1, callers := cs1, status := .running, dying := none } w1 ∧ Steps P (lone fr1 cs1 w1) m

/-- the frame does not wait in a wrapper -/
def Plain (c : Frame) : Prop := (∃ ops l k, c.todo = .inRegion ops l :: k) ∨ ∃ l k, c.todo = .inRangeFunc l :: k

/-- what a call comes to: its caller goes on -/
def Goes1 (P : Program) (ρ' : Ren) (c : Frame) (cs : List Frame) (s : Sem Next) (w w' : World) : En → Prop
  | .returned v => ∃ v', VRel ρ' v v' ∧ Applies P c cs s w (lone (c.finish v') cs w')
  | .panicked ch => ∃ ch', PanRels ρ' ch ch' ∧ Applies P c cs s w (lone (c.raise ch') cs w')

/-- a function that is called from a frame -/
def FunT (P : Program) (f : FuncId) (args : List VV) (S : St) (R : En → St → Prop) : Prop :=
  ∀ ρ w (args' : Array Value), Sim P.globals.size ρ S w → VRels ρ args args'.toList → ∀ (s : Sem Next), s.run P w = (callFunc f args').run P w → ∀ (c : Frame) (cs : List Frame), Plain c →
    ∃ e S', R e S' ∧ ∃ ρ' w', Goes P.globals.size ρ S w ρ' S' w' ∧ Goes1 P ρ' c cs s w w' e

/-- what stands in a function's place is what its call comes to -/
def OvSound (P : Program) (ov : Ov) : Prop :=
  ∀ f g args S e S', ov f = some g → g args S = some (e, S') → FunT P f args S fun e1 S1 => e1 = e ∧ S1 = S'

theorem callFunc_enter (hn : NoCount P) {f : FuncId} {fn : Func} (hf : P.funcs[f]? = some fn) (hb : fn.body.isSome = true) (args : Array Value) (w : World) : (callFunc f args).run P w = .ok (.enter f args) w := by
  have h1 : (fn.name == "runtime.NumGoroutine") = false := by simpa using hn f fn hf
  have h2 : fn.body.isNone = false := by cases h : fn.body <;> simp_all
  simp only [callFunc, Sem.run_bind, run_program, Result.andThen_ok, hf, h1, h2, Bool.false_eq_true, if_false, Sem.run_pure]

theorem apply_enter {c : Frame} {cs : List Frame} {s : Sem Next} {f : FuncId} {args : Array Value} (hp : Plain c) (h : s.run P w = .ok (.enter f args) w) :
    (stepG.apply P true c cs none s w).bare = .go { frame := Frame.enter P f args .normal, callers := c :: cs, status := .running, dying := none } w := by
  rcases hp with ⟨ops, l, k, hp⟩ | ⟨l, k, hp⟩ <;> simp only [stepG.apply, Sem.runT_eq, if_true, h, GStep.bare_after, GStep.bare_go, hp]

theorem apply_round {c : Frame} {cs : List Frame} {s : Sem Next} {l : Nat} {f : FuncId} {tmps : Array Value} {assign body : Code} (h : s.run P w = .ok (.round l f tmps assign body) w) :
    (stepG.apply P true c cs none s w).bare = .go { frame := Frame.round l f tmps assign body .normal, callers := c :: cs, status := .running, dying := none } w := by
  simp only [stepG.apply, Sem.runT_eq, if_true, h, GStep.bare_after, GStep.bare_go]

theorem apply_value {c : Frame} {cs : List Frame} {s : Sem Next} {v : Value} {w' : World} (h : s.run P w = .ok (.value v) w') :
    (stepG.apply P true c cs none s w).bare = .go { frame := c.finish v, callers := cs, status := .running, dying := none } w' := by
  simp only [stepG.apply, Sem.runT_eq, if_true, h, GStep.bare_after, GStep.bare_go]

theorem apply_skip {c : Frame} {cs : List Frame} {s : Sem Next} {w' : World} (h : s.run P w = .ok .skip w') :
    (stepG.apply P true c cs none s w).bare = .go { frame := c.finish undef, callers := cs, status := .running, dying := none } w' := by
  simp only [stepG.apply, Sem.runT_eq, if_true, h, GStep.bare_after, GStep.bare_go]

theorem apply_defer {c : Frame} {cs : List Frame} {s : Sem Next} {d : Deferred} {w' : World} (h : s.run P w = .ok (.defer d) w') :
    (stepG.apply P true c cs none s w).bare = .go { frame := { c with defers := d :: c.defers }.finish undef, callers := cs, status := .running, dying := none } w' := by
  simp only [stepG.apply, Sem.runT_eq, if_true, h, GStep.bare_after, GStep.bare_go]

theorem apply_panic {c : Frame} {cs : List Frame} {s : Sem Next} {v : Value} {w' : World} (h : s.run P w = .halt (.panic v) w') :
    (stepG.apply P true c cs none s w).bare = .go { frame := c.raise [{ v, recovered := false }], callers := cs, status := .running, dying := none } w' := by
  simp only [stepG.apply, Sem.runT_eq, if_true, h, GStep.bare_after, GStep.bare_go]

theorem apply_recover {c : Frame} {cs : List Frame} {s : Sem Next} {w' : World} (hr : c.roundOf = none) (h : s.run P w = .ok .recover w') :
    (stepG.apply P true c cs none s w).bare = match tryRecover c cs with
      | some (v, cs') => .go { frame := c.finish v, callers := cs', status := .running, dying := none } w'
      | none => .go { frame := c.finish .nilIface, callers := cs, status := .running, dying := none } w' := by
  simp only [stepG.apply, Sem.runT_eq, if_true, h, GStep.bare_after, hr]
  cases tryRecover c cs <;> rfl

/-- a frame that has done a plain call hands on to its caller -/
theorem step_left {f : FuncId} {fr c : Frame} {cs : List Frame} {e : En} (h : Left P ρ f .normal fr w e) :
    match e with
    | .returned v => ∃ v', VRel ρ v v' ∧ step P (lone fr (c :: cs) w) = .next (lone (c.finish v') cs w)
    | .panicked ch => ∃ ch', PanRels ρ ch ch' ∧ step P (lone fr (c :: cs) w) = .next (lone (c.raise ch') cs w) := by
  cases e with
  | returned v =>
    obtain ⟨h1, h2, h3, h4, fn, v', h5, h6, h7⟩ := h
    exact ⟨v', h7, step_leave_returned ⟨h1, h2, h3, fn, by rw [h4]; exact h5, h6⟩⟩
  | panicked ch =>
    obtain ⟨h1, h2, h3, ⟨fn, h5⟩, ch', h6, h7⟩ := h
    exact ⟨ch', h7, step_leave_panicked ⟨h6, h1, fn, by rw [h3]; exact h5⟩⟩

/-- a call of a function value, from a frame that waits for it -/
theorem callV_sound {ov : Ov} {r : Rec} (hr : RecSound P r) (ho : OvSound P ov) (hn : NoCount P) (hcall : ∀ f args rc S L, r.call f args rc S = some L → ∃ fn, P.funcs[f]? = some fn ∧ fn.body.isSome = true)
    {fn : Fn} {args : List VV} {L : CallR} (h : callV P ov r fn args S = some L) (hS : Sim P.globals.size ρ S w) {fn' : Fn} {args' : Array Value} (hf : FnRel ρ fn fn') (ha : VRels ρ args args'.toList)
    {first captured : Array Value} (hargs : args' = first ++ captured) {s : Sem Next} (hs : s.run P w = (invoke (.fn fn' captured) first).run P w) (hcap : ∀ l, fn = .yield l → captured = #[]) (c : Frame) (cs : List Frame) (hc : Plain c) :
    ∃ e rc S', (e, rc, S') ∈ L ∧ ∃ ρ' w', Goes P.globals.size ρ S w ρ' S' w' ∧ Goes1 P ρ' c cs s w w' e := by
  cases hf with
  | func f =>
    have hs' : s.run P w = (callFunc f args').run P w := by rw [hs, hargs]; rfl
    -- a frame is entered
    have enter : ∀ {ρ' w' S1 e fr}, (callFunc f args').run P w = .ok (.enter f args') w → Goes P.globals.size ρ S w ρ' S1 w' → Steps P (lone (Frame.enter P f args' .normal) (c :: cs) w) (lone fr (c :: cs) w') → Left P ρ' f .normal fr w' e →
        Goes1 P ρ' c cs s w w' e := by
      intro ρ' w' S1 e fr h1 h2 h3 h4
      have hl := step_left (c := c) (cs := cs) h4
      cases e with
      | returned v =>
        obtain ⟨v', q1, q2⟩ := hl
        exact ⟨v', q1, _, _, _, apply_enter hc (by rw [hs', h1]), h3.trans (.one q2)⟩
      | panicked ch =>
        obtain ⟨ch', q1, q2⟩ := hl
        exact ⟨ch', q1, _, _, _, apply_enter hc (by rw [hs', h1]), h3.trans (.one q2)⟩
    simp only [callV] at h
    cases hov : ov f with
    | some g =>
      simp only [hov] at h
      cases hg : g args S with
      | none => simp [hg] at h
      | some q =>
        obtain ⟨e, S1⟩ := q
        simp only [hg, Option.some.injEq] at h
        subst h
        obtain ⟨e1, S2, ⟨rfl, rfl⟩, ρ', w', h1, h2⟩ := ho f g args S e S1 hov hg ρ w args' hS ha s hs' c cs hc
        exact ⟨_, _, _, List.mem_singleton.2 rfl, ρ', w', h1, h2⟩
    | none =>
      simp only [hov] at h
      obtain ⟨fnn, hfn, hbody⟩ := hcall _ _ _ _ _ h
      have hent := callFunc_enter hn hfn hbody args' w
      obtain ⟨e, rc', S', h1, ρ', w', p', fr, h2, h3, h4, h5⟩ := hr.call f args none S L h ρ w .normal (.fixed (c :: cs)) none args' hS (.normal _) ha (.inl rfl)
      cases h3
      exact ⟨e, _, S', h1, ρ', w', h2, enter hent h2 h4 h5⟩
  | yield hl =>
    rename_i l r' b n
    have hcap' := hcap l rfl
    subst hcap'
    have hargs' : args' = first := by rw [hargs]; simp
    subst hargs'
    simp only [callV] at h
    obtain ⟨fnn, tmps, assign, body, w0, h1, rfl, h2⟩ := hr.round l args S L h ρ w r' b n args' hS hl ha
    obtain ⟨e, rc', S', q1, ρ', w', q2, q3⟩ := h2 c cs
    have hs' : s.run P w0 = .ok (.round r' fnn tmps assign body) w0 := by rw [hs]; exact h1
    refine ⟨e, rc', S', q1, ρ', w', q2, ?_⟩
    cases e with
    | returned v =>
      obtain ⟨v', q4, q5⟩ := q3
      exact ⟨v', q4, _, _, _, apply_round hs', q5⟩
    | panicked ch =>
      obtain ⟨ch', q4, q5⟩ := q3
      exact ⟨ch', q4, _, _, _, apply_round hs', q5⟩
  | _ => simp [callV] at h

/-- what is called: the model's own reckoning -/
theorem callee_rel {e : Operand → VV} {a : Act} (he : ∀ x, VRel ρ (e x) (a.eval x)) {o : Oper} {c : Call} {fn : Fn} {args : List VV} (ho : o.op = .call c) (h : calleeV e c = some (fn, args)) :
    ∃ fn' first captured, FnRel ρ fn fn' ∧ VRels ρ args (first ++ captured).toList ∧ (∀ w, (execOp a.eval o).run P w = (invoke (.fn fn' captured) first).run P w) ∧ (∀ b, c.callee ≠ .builtin b) ∧ ∀ l, fn = .yield l → captured = #[] := by
  unfold calleeV at h
  cases hc : c.callee with
  | builtin b => simp [hc] at h
  | invoke r m => simp [hc] at h
  | value f =>
    simp only [hc] at h
    have hf := he f
    cases hq : a.eval f with
    | func fn' f' c' =>
      cases hv : e f with
      | func fn0 first captured =>
        rw [hv, hq] at hf
        cases hf with
        | func hfn h1 h2 =>
          simp only [hv] at h
          cases hy : yieldOk fn0 captured with
          | false => simp [hy] at h
          | true =>
          simp only [hy, Option.some.injEq, Prod.mk.injEq] at h
          obtain ⟨rfl, rfl⟩ := h
          refine ⟨fn', f' ++ c.args.map a.eval, c', hfn, ?_, ?_, by simp [hc], ?_⟩
          rotate_left 2
          · rintro l rfl
            cases captured with
            | nil =>
              have := h2.length
              simpa using this
            | cons x y => simp [yieldOk] at hy
          · simp only [Array.toList_append]
            exact ((h1.append (args_rel he c)).append h2)
          · intro w
            simp only [execOp, ho, resolve, hc, Deferred.ofValue, hq, Sem.run_bind, Sem.run_pure, Result.andThen_ok]
      | _ => simp [hv] at h
    | _ =>
      cases hv : e f with
      | func fn0 first captured => rw [hv, hq] at hf; cases hf
      | _ => simp [hv] at h

theorem defer_rel {e : Operand → VV} {a : Act} (he : ∀ x, VRel ρ (e x) (a.eval x)) {o : Oper} {c : Call} {d : VDef} (ho : o.op = .defer c) (h : deferV e c = some d) :
    ∃ d', DRel ρ d d' ∧ ∀ w, (execOp a.eval o).run P w = .ok (.defer d') w := by
  unfold deferV at h
  cases hc : c.callee with
  | builtin b => simp [hc] at h
  | invoke r m => simp [hc] at h
  | value f =>
    simp only [hc] at h
    have hf := he f
    cases hv : e f with
    | func fn0 first captured =>
      rw [hv] at hf
      cases fn0 <;> simp only [hv, reduceCtorEq, Option.some.injEq] at h
      subst h
      generalize hq : a.eval f = q at hf
      cases hf with
      | func hfn h1 h2 =>
        rename_i fn' f' c'
        cases hfn
        refine ⟨{ target := .fn (.func _) c', args := f' ++ c.args.map a.eval }, .fn (.func _) h2 ?_, ?_⟩
        · simp only [Array.toList_append]
          exact h1.append (args_rel he c)
        · intro w
          simp only [execOp, ho, resolve, hc, Deferred.ofValue, hq, Sem.run_bind, Sem.run_pure, Result.andThen_ok]
    | _ => simp [hv] at h

theorem panic_rel {e : Operand → VV} {a : Act} (he : ∀ x, VRel ρ (e x) (a.eval x)) {o : Oper} {x : Operand} {ch : List VPan} (ho : o.op = .panic x) (h : panicV (e x) = some ch) :
    ∃ v, PanRels ρ ch [{ v, recovered := false }] ∧ ∀ w, (execOp a.eval o).run P w = .halt (.panic v) w := by
  have hx := he x
  cases hv : e x with
  | iface t u =>
    rw [hv] at hx
    simp only [hv, panicV, Option.some.injEq] at h
    subst h
    generalize hq : a.eval x = q at hx
    cases hx with
    | iface _ hu =>
      refine ⟨_, .cons (p := { v := .iface t u, recovered := false }) (.iface t hu) .nil, fun w => ?_⟩
      simp [execOp, ho, hq, Instr.panic]
  | _ => simp [hv, panicV] at h

theorem recover_rel {k : CallKind} {C : Callers} {rc : Option (List VPan)} {p : Option (List PanicEntry)} (h : RcRel ρ k C rc p) {c : Frame} (hk : c.kind = k) :
    ∃ v' p', VRel ρ (recoverV rc).1 v' ∧ RcRel ρ k C (recoverV rc).2 p' ∧ (tryRecover c (C.at p) = some (v', C.at p') ∨ (tryRecover c (C.at p) = none ∧ v' = .nilIface ∧ C.at p' = C.at p)) := by
  cases h with
  | fixed hf => exact ⟨.nilIface, none, .nilIface, .fixed hf, .inr ⟨hf c hk, rfl, rfl⟩⟩
  | over hd hp =>
    rename_i cf rest ch ch'
    subst hd
    cases hp with
    | nil =>
      refine ⟨.nilIface, some [], .nilIface, .over rfl .nil, .inr ⟨?_, rfl, rfl⟩⟩
      simp [tryRecover, hk, Callers.at]
    | cons hv ht =>
      rename_i pe v' l l'
      cases hr : pe.recovered with
      | false =>
        refine ⟨v', some ({ v := v', recovered := true } :: l'), by simp only [recoverV, hr]; exact hv, by simp only [recoverV, hr]; exact .over rfl (.cons (p := { v := pe.v, recovered := true }) hv ht), .inl ?_⟩
        simp [tryRecover, hk, Callers.at]
      | true =>
        refine ⟨.nilIface, some ({ v := v', recovered := true } :: l'), by simp only [recoverV, hr]; exact .nilIface, by simp only [recoverV, hr]; exact .over rfl (by have := PanRels.cons (p := pe) hv ht; rw [hr] at this; exact this), .inr ⟨?_, rfl, rfl⟩⟩
        simp [tryRecover, hk, Callers.at]

end Go.Vm

/-
  A virtual semantics of the model's code (24): regions in the text's order.
-/
namespace Go.Vm
variable {P : Program} {ρ ρ' : Ren} {S : St} {w : World}

theorem steps_op {b : Frame} {a : Act} {ops : Array Oper} {i : Nat} {rest : List Nat} {k : List Item} {cs : List Frame} {o : Oper} {m : Machine} (ho : ops[i]? = some o) (hw : Region.wanted o (yielded ops a.tmps) = true)
    (h : Applies P (b.atR a (.inRegion ops (i :: rest) :: k)) cs (o.semAt b.roundOf a.eval) w m) : Steps P (lone (b.atR a (.inRegion ops (i :: rest) :: k)) cs w) m := by
  obtain ⟨fr1, cs1, w1, h1, h2⟩ := h
  exact .head (step_lone_go (by rw [stepGR_op ho hw]; exact h1)) h2

theorem finish_op {b : Frame} {a : Act} {ops : Array Oper} {i : Nat} {rest : List Nat} {k : List Item} {o : Oper} (ho : ops[i]? = some o) (v : Value) :
    (b.atR a (.inRegion ops (i :: rest) :: k)).finish v = b.atR (a.put o.dst v) (.inRegion ops rest :: k) := by
  rw [Frame.finish_atR, ho]; rfl

theorem plain_op (b : Frame) (a : Act) (ops : Array Oper) (l : List Nat) (k : List Item) : Plain (b.atR a (.inRegion ops l :: k)) := .inl ⟨ops, l, k, rfl⟩

structure Sounds (P : Program) (ov : Ov) (r : Rec) : Prop where
  rec_ : RecSound P r
  ov_ : OvSound P ov
  count : NoCount P
  call : ∀ f args rc S L, r.call f args rc S = some L → ∃ fn, P.funcs[f]? = some fn ∧ fn.body.isSome = true

/-- what one operation comes to -/
def OperIs (P : Program) (G : Nat) (K : Fr → St → Option CodeR) (L : CodeR) (ρ : Ren) (S : St) (w : World) (b : Frame) (C : Callers) (m : Machine) (ops : Array Oper) (rest : List Nat) (k : List Item) : Prop :=
  CodeIs P G L ρ S w b C m k ∨ ∃ fr1 S1 L1 ρ1 w1 p1 a1, K fr1 S1 = some L1 ∧ (∀ y ∈ L1, y ∈ L) ∧ Goes G ρ S w ρ1 S1 w1 ∧ RcRel ρ1 b.kind C fr1.rc p1 ∧ ARel ρ1 fr1 a1 ∧ Steps P m (lone (b.atR a1 (.inRegion ops rest :: k)) (C.at p1) w1)

theorem simple_oper {ov : Ov} {r : Rec} {o : Oper} {fr : Fr} {K : Fr → St → Option CodeR} {L : CodeR} {b : Frame} {C : Callers} {p : Option (List PanicEntry)} {a : Act} {ops : Array Oper} {i : Nat} {rest : List Nat} {k : List Item}
    (h : (match simpleV P (fr.ev P.globals.size) S o.op with
      | some (v, S) => match fr.put o.dst v with
        | some fr => K fr S
        | none => none
      | none => none) = some L) (hnd : ∀ c, o.op ≠ .defer c)
    (hS : Sim P.globals.size ρ S w) (hrc : RcRel ρ b.kind C fr.rc p) (ha : ARel ρ fr a) (ho : ops[i]? = some o) (hw : Region.wanted o (yielded ops a.tmps) = true) :
    OperIs P P.globals.size K L ρ S w b C (lone (b.atR a (.inRegion ops (i :: rest) :: k)) (C.at p) w) ops rest k := by
  cases hs : simpleV P (fr.ev P.globals.size) S o.op with
  | none => simp [hs] at h
  | some q =>
    obtain ⟨v, S1⟩ := q
    simp only [hs] at h
    cases hp : fr.put o.dst v with
    | none => simp [hp] at h
    | some fr1 =>
      simp only [hp] at h
      obtain ⟨ρ1, w1, ⟨v', hrun, hv⟩, hg, _⟩ := simpleV_sound (P := P) hS (ha.ev hS) hs
      obtain ⟨ha1, hrc1⟩ := put_rel hp (ha.mono hg.ext) hv
      refine .inr ⟨fr1, S1, L, ρ1, w1, p, a.put o.dst v', h, fun _ q => q, hg, by rw [hrc1]; exact hrc.mono hg.ext, ha1, ?_⟩
      refine steps_op ho hw ?_
      rw [Oper.semAt_eq _ _ _ hnd, ← finish_op (b := b) (rest := rest) (k := k) ho v']
      rcases hrun with hrun | ⟨hrun, rfl⟩
      · exact ⟨_, _, _, apply_value hrun, .refl _ _⟩
      · exact ⟨_, _, _, apply_skip hrun, .refl _ _⟩

set_option maxHeartbeats 1000000 in
theorem operV_sound {ov : Ov} {r : Rec} (hs : Sounds P ov r) {fi : FI} {o : Oper} {fr : Fr} {K : Fr → St → Option CodeR} {L : CodeR} (h : operV P ov r fi o fr S K = some L) {b : Frame} {C : Callers} {p : Option (List PanicEntry)} {a : Act} {ops : Array Oper} {i : Nat} {rest : List Nat} {k : List Item}
    (hS : Sim P.globals.size ρ S w) (hx : Ctx ρ fi b) (hrc : RcRel ρ b.kind C fr.rc p) (ha : ARel ρ fr a) (ho : ops[i]? = some o) (hw : Region.wanted o (yielded ops a.tmps) = true) :
    OperIs P P.globals.size K L ρ S w b C (lone (b.atR a (.inRegion ops (i :: rest) :: k)) (C.at p) w) ops rest k := by
  have he := ha.ev hS
  unfold operV at h
  cases hop : o.op <;> simp only [hop] at h
  case call c =>
    have hnd : ∀ d, o.op ≠ .defer d := by simp [hop]
    -- calls of functions
    have calls : ∀ {L : CodeR}, (match calleeV (fr.ev P.globals.size) c with
        | none => none
        | some (fn, args) => bindL (callV P ov r fn args S) fun (e, _, S) => match e with
          | .returned v => match fr.put o.dst v with
            | some fr => K fr S
            | none => none
          | .panicked ch => some [(.panic ch, fr, S)]) = some L → OperIs P P.globals.size K L ρ S w b C (lone (b.atR a (.inRegion ops (i :: rest) :: k)) (C.at p) w) ops rest k := by
      intro L h
      cases hc : calleeV (fr.ev P.globals.size) c with
      | none => simp [hc] at h
      | some q =>
        obtain ⟨fn, args⟩ := q
        simp only [hc] at h
        obtain ⟨fn', first, captured, q1, q2, q3, _, q5⟩ := callee_rel (P := P) he hop hc
        obtain ⟨l, hl, hall⟩ := bindL_spec h
        obtain ⟨e, rc', S1, hm, ρ1, w1, hg, hgo⟩ := callV_sound hs.rec_ hs.ov_ hs.count hs.call hl hS q1 q2 rfl (s := execOp a.eval o) (q3 w) q5 (b.atR a (.inRegion ops (i :: rest) :: k)) (C.at p) (plain_op _ _ _ _ _)
        obtain ⟨R, hR, hsub⟩ := hall _ hm
        cases e with
        | returned v =>
          simp only at hR
          obtain ⟨v', hv, happ⟩ := hgo
          cases hp : fr.put o.dst v with
          | none => simp [hp] at hR
          | some fr1 =>
            simp only [hp] at hR
            obtain ⟨ha1, hrc1⟩ := put_rel hp (ha.mono hg.ext) hv
            refine .inr ⟨fr1, S1, R, ρ1, w1, p, a.put o.dst v', hR, hsub, hg, by rw [hrc1]; exact hrc.mono hg.ext, ha1, ?_⟩
            refine steps_op ho hw ?_
            rw [Oper.semAt_eq _ _ _ hnd, ← finish_op (b := b) (rest := rest) (k := k) ho v']
            exact happ
        | panicked ch =>
          simp only [Option.some.injEq] at hR
          subst hR
          obtain ⟨ch', hch, happ⟩ := hgo
          refine .inl ⟨.panic ch, fr, S1, hsub _ (List.mem_singleton.2 rfl), ρ1, w1, p, a, hg, hrc.mono hg.ext, ha.mono hg.ext, .inRegion ops (i :: rest) :: k, ch', hch, ?_⟩
          refine steps_op ho hw ?_
          rw [Oper.semAt_eq _ _ _ hnd]
          exact happ
    cases hcc : c.callee with
    | value f => simp only [hcc] at h; exact calls h
    | invoke rr m => simp only [hcc] at h; exact calls h
    | builtin bb =>
      by_cases hrec : bb = .recover
      · subst hrec
        simp only [hcc] at h
        cases hr : fi.round with
        | some l => simp [hr] at h
        | none =>
          simp only [hr] at h
          have hro : b.roundOf = none := by have := hx.round; simpa [hr] using this
          generalize hrv : recoverV fr.rc = q at h
          obtain ⟨v, rc1⟩ := q
          simp only at h
          cases hp : ({ fr with rc := rc1 } : Fr).put o.dst v with
          | none => simp [hp] at h
          | some fr1 =>
            simp only [hp] at h
            obtain ⟨v', p', h1, h2, h3⟩ := recover_rel hrc (c := b.atR a (.inRegion ops (i :: rest) :: k)) rfl
            rw [hrv] at h1 h2
            obtain ⟨ha1, hrc1⟩ := put_rel (fr := { fr with rc := rc1 }) hp (show ARel ρ { fr with rc := rc1 } a from ha) h1
            refine .inr ⟨fr1, S, L, ρ, w, p', a.put o.dst v', h, fun _ q => q, .refl hS, by rw [hrc1]; exact h2, ha1, ?_⟩
            refine steps_op ho hw ?_
            rw [Oper.semAt_eq _ _ _ hnd, ← finish_op (b := b) (rest := rest) (k := k) ho v']
            have hrun : (execOp a.eval o).run P w = .ok .recover w := by rw [builtin_run hop hcc]; rfl
            refine ⟨_, _, _, ?_, .refl _ _⟩
            rw [apply_recover (by simpa [Frame.atR] using hro) hrun]
            rcases h3 with h3 | ⟨h3, rfl, h4⟩
            · rw [h3]
            · rw [h3, h4]
      · have h' : (match simpleV P (fr.ev P.globals.size) S o.op with
            | some (v, S) => match fr.put o.dst v with
              | some fr => K fr S
              | none => none
            | none => none) = some L := by
          rw [hop]
          cases bb <;> first | (exact absurd rfl hrec) | (simp only [hcc] at h; exact h)
        exact simple_oper (ov := ov) (r := r) h' hnd hS hrc ha ho hw
  case defer c =>
    cases hr : fi.round with
    | some l => simp [hr] at h
    | none =>
      have hro : b.roundOf = none := by have := hx.round; simpa [hr] using this
      cases hd : deferV (fr.ev P.globals.size) c with
      | none => simp [hr, hd] at h
      | some d =>
        simp only [hr, hd] at h
        cases hp : ({ fr with ds := d :: fr.ds } : Fr).put o.dst undefV with
        | none => simp [hp] at h
        | some fr1 =>
          simp only [hp] at h
          obtain ⟨d', h1, h2⟩ := defer_rel (P := P) he hop hd
          obtain ⟨ha1, hrc1⟩ := put_rel (fr := { fr with ds := d :: fr.ds }) (a := { a with defers := d' :: a.defers }) hp ⟨ha.1, .cons h1 ha.2⟩ (undef_rel ρ)
          refine .inr ⟨fr1, S, L, ρ, w, p, ({ a with defers := d' :: a.defers } : Act).put o.dst undef, h, fun _ q => q, .refl hS, by rw [hrc1]; exact hrc, ha1, ?_⟩
          refine steps_op ho hw ?_
          have hsem : o.semAt b.roundOf a.eval = execOp a.eval o := by rw [hro]; rfl
          rw [hsem]
          refine ⟨_, _, _, apply_defer (h2 w), ?_⟩
          rw [← finish_op (b := b) (a := { a with defers := d' :: a.defers }) (rest := rest) (k := k) ho undef]
          exact .refl _ _
  case panic x =>
    have hnd : ∀ d, o.op ≠ .defer d := by simp [hop]
    cases hp : panicV (fr.ev P.globals.size x) with
    | none => simp [hp] at h
    | some ch =>
      simp only [hp, Option.some.injEq] at h
      subst h
      obtain ⟨v, h1, h2⟩ := panic_rel (P := P) he hop hp
      refine .inl ⟨.panic ch, fr, S, List.mem_singleton.2 rfl, ρ, w, p, a, .refl hS, hrc, ha, .inRegion ops (i :: rest) :: k, _, h1, ?_⟩
      refine steps_op ho hw ?_
      rw [Oper.semAt_eq _ _ _ hnd]
      exact ⟨_, _, _, apply_panic (h2 w), .refl _ _⟩
  case next it s =>
    have hnd : ∀ d, o.op ≠ .defer d := by simp [hop]
    obtain ⟨l, hl, hall⟩ := bindL_spec h
    obtain ⟨v, S1, hm, v', w1, h1, h2, hg⟩ := r_next (P := P) hS o.type hl (he it)
    obtain ⟨R, hR, hsub⟩ := hall _ hm
    simp only at hR
    cases hp : fr.put o.dst v with
    | none => simp [hp] at hR
    | some fr1 =>
      simp only [hp] at hR
      obtain ⟨ha1, hrc1⟩ := put_rel hp ha h2
      refine .inr ⟨fr1, S1, R, ρ, w1, p, a.put o.dst v', hR, hsub, hg, by rw [hrc1]; exact hrc, ha1, ?_⟩
      refine steps_op ho hw ?_
      rw [Oper.semAt_eq _ _ _ hnd, ← finish_op (b := b) (rest := rest) (k := k) ho v']
      exact ⟨_, _, _, apply_value (by simp only [execOp, hop, Sem.run_bind, h1, Result.andThen_ok, Sem.run_pure]), .refl _ _⟩
  all_goals
    rw [← hop] at h
    exact simple_oper (ov := ov) (r := r) h (by simp [hop]) hS hrc ha ho hw

theorem opersV_sound {ov : Ov} {r : Rec} (hs : Sounds P ov r) {fi : FI} {ops : Array Oper} {b : Frame} {C : Callers} {k : List Item} : ∀ (l : List Oper) (i : Nat) {fr : Fr} {S : St} {L : CodeR}, opersV P ov r fi ops l fr S = some L → (∀ j, l[j]? = ops[i + j]?) → ∀ {ρ w p a}, Sim P.globals.size ρ S w → Ctx ρ fi b → RcRel ρ b.kind C fr.rc p → ARel ρ fr a →
    CodeIs P P.globals.size L ρ S w b C (lone (b.atR a (.inRegion ops (List.range' i l.length) :: k)) (C.at p) w) k := by
  intro l
  induction l with
  | nil =>
    intro i fr S L h _ ρ w p a hS hx hrc ha
    simp only [opersV, Option.some.injEq] at h
    subst h
    exact ⟨.normal, fr, S, List.mem_singleton.2 rfl, ρ, w, p, a, .refl hS, hrc, ha, .one stepR_region_end⟩
  | cons o l ih =>
    intro i fr S L h hi ρ w p a hS hx hrc ha
    have ho : ops[i]? = some o := by have := hi 0; simpa using this.symm
    have hi' : ∀ j, l[j]? = ops[i + 1 + j]? := fun j => by have := hi (j + 1); rw [show i + 1 + j = i + (j + 1) by omega]; simpa using this
    simp only [opersV] at h
    cases hw : wantedV ops o (fun d => fr.t.get d) with
    | none => simp [hw] at h
    | some q =>
      have hwr := wanted_rel (tmps := a.tmps) (fun t v ht => ha.1.2 t v ht) hw
      simp only [List.length_cons, List.range'_succ]
      cases q with
      | true =>
        simp only [hw] at h
        rcases operV_sound hs h hS hx hrc ha ho hwr (rest := List.range' (i + 1) l.length) (k := k) with hc | ⟨fr1, S1, L1, ρ1, w1, p1, a1, h1, h2, h3, h4, h5, h6⟩
        · exact hc
        · exact .of_steps h6 (.of_goes h3 (ih (i + 1) h1 hi' h3.sim (hx.mono h3.ext) h4 h5) h2)
      | false =>
        simp only [hw] at h
        cases hp : fr.put o.dst undefV with
        | none => simp [hp] at h
        | some fr1 =>
          simp only [hp] at h
          obtain ⟨ha1, hrc1⟩ := put_rel hp ha (undef_rel ρ)
          have hstep := stepR_op_skip (P := P) (b := b) (a := a) (k := k) (cs := C.at p) (w := w) (ops := ops) (i := i) (rest := List.range' (i + 1) l.length) (by simp [ho, hwr])
          simp only [ho, Option.bind_some] at hstep
          exact .of_steps (.one hstep) (ih (i + 1) h hi' hS hx (by rw [hrc1]; exact hrc) ha1)

end Go.Vm

/-
  A virtual semantics of the model's code (25): pieces of code.
-/
namespace Go.Vm
variable {P : Program} {G : Nat} {ρ ρ' : Ren} {S : St} {w : World}

theorem CodeIs.here {L : CodeR} {x : Ex} {fr : Fr} {b : Frame} {C : Callers} {p : Option (List PanicEntry)} {a : Act} {m : Machine} {k : List Item}
    (hm : (x, fr, S) ∈ L) (hS : Sim G ρ S w) (hrc : RcRel ρ b.kind C fr.rc p) (ha : ARel ρ fr a) (hr : Reach P m b k (C.at p) ρ x a w) : CodeIs P G L ρ S w b C m k :=
  ⟨x, fr, S, hm, ρ, w, p, a, .refl hS, hrc, ha, hr⟩

theorem CodeIs.bind {l L : CodeR} {f : Ex × Fr × St → Option CodeR} {b : Frame} {C : Callers} {m : Machine} {k1 k : List Item}
    (h : CodeIs P G l ρ S w b C m k1) (hall : ∀ y ∈ l, ∃ R, f y = some R ∧ ∀ z ∈ R, z ∈ L)
    (next : ∀ x fr' S' R ρ' w' p' a', f (x, fr', S') = some R → Goes G ρ S w ρ' S' w' → RcRel ρ' b.kind C fr'.rc p' → ARel ρ' fr' a' → Reach P m b k1 (C.at p') ρ' x a' w' → CodeIs P G R ρ' S' w' b C m k) :
    CodeIs P G L ρ S w b C m k := by
  obtain ⟨x, fr', S', h1, ρ', w', p', a', h2, h3, h4, h5⟩ := h
  obtain ⟨R, hR, hsub⟩ := hall _ h1
  exact .of_goes h2 (next x fr' S' R ρ' w' p' a' hR h2 h3 h4 h5) hsub

/-- out of a piece of code, other than by its end -/
theorem Reach.out {m : Machine} {b : Frame} {k1 k : List Item} {cs : List Frame} {x : Ex} {a : Act} (hx : x ≠ .normal) (he : ∀ id, x = .exit id → exitTo id k1 = exitTo id k) (h : Reach P m b k1 cs ρ x a w) : Reach P m b k cs ρ x a w := by
  cases x with
  | normal => exact absurd rfl hx
  | exit id => obtain ⟨k', h1, h2⟩ := h; exact ⟨k', h1.trans (he id rfl), h2⟩
  | ret => exact h
  | panic ch => exact h

theorem steps_cut {m m1 m2 : Machine} (h : Steps P m m2) (hs : step P m = .next m1) (hne : m ≠ m2) : Steps P m1 m2 := by
  obtain ⟨n, hn⟩ := h
  cases n with
  | zero => simp only [runN, Stepped.next.injEq] at hn; exact absurd hn hne
  | succ n => simp only [runN, hs] at hn; exact ⟨n, hn⟩

theorem lone_ne {fr fr' : Frame} {cs cs' : List Frame} {w w' : World} (h : fr.todo ≠ fr'.todo ∨ fr.mode ≠ fr'.mode) : lone fr cs w ≠ lone fr' cs' w' := by
  intro e
  have hf : fr = fr' := by
    have := congrArg (fun m : Machine => (m.gs[0]?).map (·.frame)) e
    simpa [lone] using this
  subst hf
  rcases h with h | h <;> exact h rfl

/-- round a loop again -/
theorem reach_loop {b : Frame} {a a' : Act} {c : Code} {k : List Item} {cs cs' : List Frame} {x : Ex} {w' : World} (h : Reach P (lone (b.atR a (.code (.loop c) :: k)) cs' w) b k cs ρ x a' w') :
    Reach P (lone (b.atR a (.inLoop c :: k)) cs' w) b k cs ρ x a' w' := by
  have hs : step P (lone (b.atR a (.code (.loop c) :: k)) cs' w) = .next (lone (b.atR a (.code c :: .inLoop c :: k)) cs' w) := stepR_loop
  have hs' : step P (lone (b.atR a (.inLoop c :: k)) cs' w) = .next (lone (b.atR a (.code c :: .inLoop c :: k)) cs' w) := stepR_inLoop
  have key : ∀ m2, Steps P (lone (b.atR a (.code (.loop c) :: k)) cs' w) m2 → lone (b.atR a (.code (.loop c) :: k)) cs' w ≠ m2 → Steps P (lone (b.atR a (.inLoop c :: k)) cs' w) m2 :=
    fun m2 q hne => .head hs' (steps_cut q hs hne)
  cases x with
  | normal => exact key _ h (lone_ne (.inl (by simp [Frame.atR])))
  | exit id => obtain ⟨k', h1, h2⟩ := h; exact ⟨k', h1, key _ h2 (lone_ne (.inl (by simp [Frame.atR])))⟩
  | ret => obtain ⟨k', h2⟩ := h; exact ⟨k', key _ h2 (lone_ne (.inl (by simp [Frame.atR])))⟩
  | panic ch => obtain ⟨k', ch', h1, h2⟩ := h; exact ⟨k', ch', h1, key _ h2 (lone_ne (.inr (by simp [Frame.atR])))⟩

theorem CodeIs.loop {L : CodeR} {b : Frame} {C : Callers} {a : Act} {c : Code} {k : List Item} {cs : List Frame} {w0 : World} (h : CodeIs P G L ρ S w b C (lone (b.atR a (.code (.loop c) :: k)) cs w0) k) :
    CodeIs P G L ρ S w b C (lone (b.atR a (.inLoop c :: k)) cs w0) k := by
  obtain ⟨x, fr', S', h1, ρ', w', p', a', h2, h3, h4, h5⟩ := h
  exact ⟨x, fr', S', h1, ρ', w', p', a', h2, h3, h4, reach_loop h5⟩

def DrawSound (P : Program) (ov : Ov) (r : Rec) : Prop :=
  ∀ fi id ops fr S L, drawV P ov r ops fr S = some L → ∀ ρ w (b : Frame) C p (a : Act) k, Sim P.globals.size ρ S w → Ctx ρ fi b → RcRel ρ b.kind C fr.rc p → ARel ρ fr a →
    CodeIs P P.globals.size L ρ S w b C (lone (b.atR a (.code (.region id ops true) :: k)) (C.at p) w) k

def RangeSound (P : Program) (ov : Ov) (r : Rec) : Prop :=
  ∀ fi f ps x y fr S L, rangeFuncV P ov r fi f ps.toList x y fr S = some L → ∀ ρ w (b : Frame) C p (a : Act) k, Sim P.globals.size ρ S w → Ctx ρ fi b → RcRel ρ b.kind C fr.rc p → ARel ρ fr a →
    CodeIs P P.globals.size L ρ S w b C (lone (b.atR a (.code (.rangeFunc f ps x y) :: k)) (C.at p) w) k

theorem codeV_sound {ov : Ov} {r : Rec} (hs : Sounds P ov r) (hd : DrawSound P ov r) (hr : RangeSound P ov r) : CodeSound P (codeV P ov r) := by
  intro fi c fr S L h ρ w b C p a k hS hx hrc ha
  have one : ∀ {x}, L = [(x, fr, S)] → Reach P (lone (b.atR a (.code c :: k)) (C.at p) w) b k (C.at p) ρ x a w → CodeIs P P.globals.size L ρ S w b C (lone (b.atR a (.code c :: k)) (C.at p) w) k := by
    rintro x rfl hq
    exact .here (List.mem_singleton.2 rfl) hS hrc ha hq
  cases c with
  | skip => simp only [codeV, Option.some.injEq] at h; exact one h.symm (Steps.one stepR_skip)
  | label l => simp only [codeV, Option.some.injEq] at h; exact one h.symm (Steps.one stepR_label)
  | region id ops draw =>
    cases draw with
    | true => simp only [codeV] at h; exact hd fi id ops fr S L h ρ w b C p a k hS hx hrc ha
    | false =>
      simp only [codeV] at h
      refine .of_steps (.one stepR_region) ?_
      have := opersV_sound hs (ops := ops) ops.toList 0 (b := b) (C := C) (k := k) h (by simp) hS hx hrc ha
      rw [List.range_eq_range']
      simpa using this
  | seq x y =>
    simp only [codeV] at h
    obtain ⟨l, hl, hall⟩ := bindL_spec h
    refine .of_steps (.one stepR_seq) ?_
    refine .bind (hs.rec_.code fi x fr S l hl ρ w b C p a (.code y :: k) hS hx hrc ha) hall ?_
    intro x1 fr1 S1 R ρ1 w1 p1 a1 hR hg hrc1 ha1 hreach
    cases x1 with
    | normal => exact .of_steps hreach (hs.rec_.code fi y fr1 S1 R hR ρ1 w1 b C p1 a1 k hg.sim (hx.mono hg.ext) hrc1 ha1)
    | _ =>
      simp only [Option.some.injEq] at hR
      subst hR
      exact .here (List.mem_singleton.2 rfl) hg.sim hrc1 ha1 (hreach.out (by simp) (by intros; rfl))
  | cond x y z =>
    simp only [codeV] at h
    have hv := ha.ev hS x
    cases he : fr.ev P.globals.size x with
    | bool t =>
      rw [he] at hv
      have hb : a.eval x = .bool t := by generalize a.eval x = q at hv; cases hv; rfl
      refine .of_steps (.one (stepR_cond hb)) ?_
      cases t with
      | true => simp only [he] at h; exact hs.rec_.code fi y fr S L h ρ w b C p a k hS hx hrc ha
      | false => simp only [he] at h; exact hs.rec_.code fi z fr S L h ρ w b C p a k hS hx hrc ha
    | _ => simp [he] at h
  | block id x =>
    simp only [codeV] at h
    obtain ⟨l, hl, hall⟩ := bindL_spec h
    refine .of_steps (.one stepR_block) ?_
    refine .bind (hs.rec_.code fi x fr S l hl ρ w b C p a (.inBlock id :: k) hS hx hrc ha) hall ?_
    intro x1 fr1 S1 R ρ1 w1 p1 a1 hR hg hrc1 ha1 hreach
    cases x1 with
    | normal =>
      simp only [Option.some.injEq] at hR
      subst hR
      exact .here (List.mem_singleton.2 rfl) hg.sim hrc1 ha1 (Steps.trans hreach (.one stepR_inBlock))
    | exit i =>
      simp only at hR
      cases hi : Nat.beq i id with
      | true =>
        simp only [hi, Option.some.injEq] at hR
        subst hR
        have hi' : i = id := Nat.eq_of_beq_eq_true hi
        subst hi'
        obtain ⟨k', h1, h2⟩ := hreach
        exact .here (List.mem_singleton.2 rfl) hg.sim hrc1 ha1 (Steps.trans h2 (.one (stepR_exit (by rw [h1]; simp [exitTo]))))
      | false =>
        simp only [hi, Option.some.injEq] at hR
        subst hR
        refine .here (List.mem_singleton.2 rfl) hg.sim hrc1 ha1 (hreach.out (by simp) ?_)
        rintro j hj
        cases hj
        have hi' : ¬ id = i := fun e => by subst e; simp at hi
        simp [exitTo, hi']
    | _ =>
      simp only [Option.some.injEq] at hR
      subst hR
      exact .here (List.mem_singleton.2 rfl) hg.sim hrc1 ha1 (hreach.out (by simp) (by simp))
  | loop x =>
    simp only [codeV] at h
    obtain ⟨l, hl, hall⟩ := bindL_spec h
    refine .of_steps (.one stepR_loop) ?_
    refine .bind (hs.rec_.code fi x fr S l hl ρ w b C p a (.inLoop x :: k) hS hx hrc ha) hall ?_
    intro x1 fr1 S1 R ρ1 w1 p1 a1 hR hg hrc1 ha1 hreach
    cases x1 with
    | normal => exact .of_steps hreach (CodeIs.loop (hs.rec_.code fi (.loop x) fr1 S1 R hR ρ1 w1 b C p1 a1 k hg.sim (hx.mono hg.ext) hrc1 ha1))
    | _ =>
      simp only [Option.some.injEq] at hR
      subst hR
      exact .here (List.mem_singleton.2 rfl) hg.sim hrc1 ha1 (hreach.out (by simp) (by intros; rfl))
  | exit id => simp only [codeV, Option.some.injEq] at h; exact one h.symm ⟨k, rfl, .refl _ _⟩
  | ret => simp only [codeV, Option.some.injEq] at h; exact one h.symm ⟨k, .refl _ _⟩
  | rangeFunc f ps x y => simp only [codeV] at h; exact hr fi f ps x y fr S L h ρ w b C p a k hS hx hrc ha
  | _ => simp [codeV] at h

end Go.Vm

/-
  A virtual semantics of the model's code (26): ranges over functions, and their rounds.
-/
namespace Go.Vm
variable {P : Program} {G : Nat} {ρ ρ' : Ren} {S : St} {w : World}

theorem loopAt_rel (hS : Sim G ρ S w) {l : Nat} {lo : VLoop} (h : loopAt S l = some lo) :
    S.h.get l = some (.loop lo) ∧ ∃ r b n lo', ρ l = some (r, b, n) ∧ w.heap[r]? = some (.loop lo') ∧ LoopRel ρ lo lo' := by
  unfold loopAt at h
  cases ho : S.h.get l with
  | none => simp [ho] at h
  | some o =>
    cases o <;> simp only [ho, Option.some.injEq, reduceCtorEq] at h
    subst h
    obtain ⟨r, b, n, o', h1, h2, h3⟩ := hS.obj _ _ ho
    cases h3 with
    | loop h3 => exact ⟨rfl, r, b, n, _, h1, h2, h3⟩

theorem putLoop_goes (hS : Sim G ρ S w) {l : Nat} {lo lo1 : VLoop} {lo1' : Loop} {r b n : Nat} (h : S.h.get l = some (.loop lo)) (hρ : ρ l = some (r, b, n)) (hl : LoopRel ρ lo1 lo1') :
    Goes G ρ S w ρ (putLoop S l lo1) (w.putObj r (.loop lo1')) := Goes.update hS h rfl hρ (.loop hl)

theorem setParams_rel {n : Nat} : ∀ (ds : List Tmp) (vs : List VV) {vs' : List Value} {t : Tr VV} {tmps : Array Value}, TRel ρ t n tmps → VRels ρ vs vs' → (∀ d ∈ ds, d < n) →
    TRel ρ (setParams t ds vs) n ((ds.zip vs').foldl (fun (tmps : Array Value) (x : Tmp × Value) => tmps.setIfInBounds x.1 x.2) tmps)
  | [], _, _, _, _, h, _, _ => by simpa [setParams] using h
  | d :: ds, [], _, _, _, h, hv, _ => by cases hv; simpa [setParams] using h
  | d :: ds, v :: vs, _, t, tmps, h, hv, hd => by
    cases hv with
    | cons h1 h2 =>
      simp only [setParams, Tr.with_eq, List.zip_cons_cons, List.foldl_cons]
      exact setParams_rel ds vs (h.set (hd d (by simp)) h1) h2 fun e he => hd e (by simp [he])

theorem roundV_sound {r : Rec} (hr : RecSound P r) : RoundSound P (roundV P r) := by
  intro l args S L h ρ w rb nb kb args' hS hl ha
  unfold roundV at h
  cases hlo : loopAt S l with
  | none => simp [hlo] at h
  | some lo =>
    simp only [hlo] at h
    split at h
    case isFalse => cases h
    case isTrue hc =>
    obtain ⟨hlen, hps⟩ := hc
    obtain ⟨hget, r0, b0, n0, lo', q1, q2, q3⟩ := loopAt_rel hS hlo
    rw [hl] at q1
    cases q1
    have hsz : args'.size = lo'.params.size := by
      rw [← Array.length_toList, ha.length, hlen, ← q3.params, Array.length_toList]
    refine ⟨lo'.fn, _, lo'.assign, lo'.body, w, run_yield q2 hsz, rfl, ?_⟩
    intro c cs
    obtain ⟨l1, hl1, hall1⟩ := bindL_spec h
    let b : Frame := { (default : Frame) with fn := lo.fn, kind := .normal, roundOf := some rb }
    have htr : TRel ρ (setParams lo.t lo.params args) lo.n ((lo'.params.zip args').foldl (fun tmps (t, a) => tmps.setIfInBounds t a) lo'.tmps) := by
      have := setParams_rel (n := lo.n) lo.params args q3.tmps ha (by simpa [Nat.blt_eq] using hps)
      have e : lo.params.zip args'.toList = (lo'.params.zip args').toList := by rw [← q3.params, Array.toList_zip]
      rw [e, Array.foldl_toList] at this
      exact this
    rw [show Frame.round rb lo'.fn ((lo'.params.zip args').foldl (fun tmps (t, a) => tmps.setIfInBounds t a) lo'.tmps) lo'.assign lo'.body .normal =
      b.atR { tmps := (lo'.params.zip args').foldl (fun tmps (t, a) => tmps.setIfInBounds t a) lo'.tmps, defers := [] } [.code lo.assign, .beginRound, .code lo.body] by
        simp [Frame.round, Frame.atR, b, q3.fn, q3.assign, q3.body]]
    obtain ⟨x1, fr1, S1, hm1, ρ1, w1, p1, a1, hg1, hrc1, ha1, hre1⟩ := hr.code _ _ _ _ _ hl1 ρ w b (.fixed (c :: cs)) none { tmps := (lo'.params.zip args').foldl (fun tmps (t, a) => tmps.setIfInBounds t a) lo'.tmps, defers := [] } [.beginRound, .code lo.body] hS
      ⟨rfl, rfl, rb, nb, kb, hl, rfl⟩ (.normal _) ⟨htr, .nil⟩
    obtain ⟨R1, hR1, hsub1⟩ := hall1 _ hm1
    cases x1 with
    | normal =>
      simp only at hR1
      cases hlo1 : loopAt S1 l with
      | none => simp [hlo1] at hR1
      | some lo1 =>
        cases hst : lo1.state <;> simp only [hlo1, hst, reduceCtorEq] at hR1
        obtain ⟨hget1, r1, b1, n1, lo1', s1, s2, s3⟩ := loopAt_rel hg1.sim hlo1
        have hl1' := hg1.ext _ _ hl
        rw [hl1'] at s1
        cases s1
        have hgb : Goes P.globals.size ρ1 S1 w1 ρ1 (putLoop S1 l { lo1 with state := .busy }) (w1.putObj rb (.loop { lo1' with state := .busy })) :=
          putLoop_goes hg1.sim hget1 hl1' ⟨rfl, s3.pending, s3.fn, s3.tmps, s3.params, s3.assign, s3.body, s3.defers⟩
        have hstep1 : step P (lone (b.atR a1 [.beginRound, .code lo.body]) (c :: cs) w1) = .next (lone (b.atR a1 [.code lo.body]) (c :: cs) (w1.putObj rb (.loop { lo1' with state := .busy }))) :=
          stepR_beginRound rfl (run_beginRound s2 (s3.state.trans hst))
        obtain ⟨l2, hl2, hall2⟩ := bindL_spec hR1
        obtain ⟨x2, fr2, S2, hm2, ρ2, w2, p2, a2, hg2, hrc2, ha2, hre2⟩ := hr.code _ _ _ _ _ hl2 ρ1 _ b (.fixed (c :: cs)) p1 a1 [] hgb.sim ⟨rfl, rfl, rb, nb, kb, hl1', rfl⟩ hrc1 ha1
        obtain ⟨R2, hR2, hsub2⟩ := hall2 _ hm2
        have hto : Steps P (lone (b.atR { tmps := (lo'.params.zip args').foldl (fun tmps (t, a) => tmps.setIfInBounds t a) lo'.tmps, defers := [] } [.code lo.assign, .beginRound, .code lo.body]) (c :: cs) w)
            (lone (b.atR a1 [.code lo.body]) (c :: cs) (w1.putObj rb (.loop { lo1' with state := .busy }))) := Steps.trans hre1 (.one hstep1)
        have hg02 : Goes P.globals.size ρ S w ρ2 S2 w2 := (hg1.trans hgb).trans hg2
        simp only at hR2
        cases hlo2 : loopAt S2 l with
        | none => simp [hlo2] at hR2
        | some lo2 =>
          cases hds : fr2.ds with
          | cons d ds => simp [hlo2, hds] at hR2
          | nil =>
            simp only [hlo2, hds] at hR2
            obtain ⟨hget2, r2, b2, n2, lo2', t1, t2, t3⟩ := loopAt_rel hg2.sim hlo2
            have hl2' := hg02.ext _ _ hl
            rw [hl2'] at t1
            cases t1
            have lastg : ∀ (st : LoopState) (jump : Option Code), Goes P.globals.size ρ S w ρ2 (putLoop S2 l { lo2 with state := st, pending := jump }) (w2.putObj rb (.loop { lo2' with state := st, pending := jump })) := fun st jump =>
              hg02.trans (putLoop_goes hg2.sim hget2 hl2' ⟨rfl, rfl, t3.fn, t3.tmps, t3.params, t3.assign, t3.body, t3.defers⟩)
            cases x2 with
            | normal =>
              simp only [Option.some.injEq] at hR2
              subst hR2
              refine ⟨_, _, _, hsub1 _ (hsub2 _ (List.mem_singleton.2 rfl)), ρ2, _, lastg .ready none, .bool true, .bool true, ?_⟩
              exact (hto.trans hre2).trans (.one (stepR_round_end rfl rfl (run_endRound none t2)))
            | ret =>
              simp only [Option.some.injEq] at hR2
              subst hR2
              obtain ⟨k', hre2⟩ := hre2
              refine ⟨_, _, _, hsub1 _ (hsub2 _ (List.mem_singleton.2 rfl)), ρ2, _, lastg .done (some .ret), .bool false, .bool false, ?_⟩
              exact (hto.trans hre2).trans (.one (stepR_round_ret rfl rfl (run_endRound (some .ret) t2)))
            | exit id =>
              simp only [Option.some.injEq] at hR2
              subst hR2
              obtain ⟨k', hk', hre2⟩ := hre2
              refine ⟨_, _, _, hsub1 _ (hsub2 _ (List.mem_singleton.2 rfl)), ρ2, _, lastg .done (some (.exit id)), .bool false, .bool false, ?_⟩
              exact (hto.trans hre2).trans (.one (stepR_round_exit rfl rfl (by rw [hk']; rfl) (run_endRound (some (.exit id)) t2)))
            | panic ch =>
              simp only at hR2
              cases hfn : P.funcs[lo.fn]? with
              | none => simp [hfn] at hR2
              | some fn =>
                simp only [hfn, Option.some.injEq] at hR2
                subst hR2
                obtain ⟨k', ch', hch, hre2⟩ := hre2
                refine ⟨_, _, _, hsub1 _ (hsub2 _ (List.mem_singleton.2 rfl)), ρ2, _, hg02, ch', hch, ?_⟩
                have hnil : a2.defers = [] := by
                  have := ha2.2
                  rw [hds] at this
                  generalize a2.defers = q at this
                  cases this
                  rfl
                exact (hto.trans hre2).trans (.one (step_leave_panicked ⟨rfl, hnil, fn, hfn⟩))
    | _ => simp at hR1

theorem steps_range {b : Frame} {a : Act} {k : List Item} {cs : List Frame} {g : Operand} {ps : Array Tmp} {x y : Code} {l : Nat} {mark : List Deferred} {w1 : World} {m : Machine}
    (he : (Instr.enterLoop b.fn a.tmps ps x y b.roundOf).run P w = .ok (l, mark) w1)
    (h : Applies P (b.atR { a with defers := mark ++ a.defers } (.inRangeFunc l :: k)) cs (do let d ← resolve a.eval (rangeCall g l) 0; invoke d.target d.args) w1 m) :
    Steps P (lone (b.atR a (.code (.rangeFunc g ps x y) :: k)) cs w) m := by
  obtain ⟨fr1, cs1, w2, h1, h2⟩ := h
  refine .head (step_lone_go ?_) h2
  rw [← h1]
  have hev := Frame.eval_atR b { a with defers := mark ++ a.defers } (.inRangeFunc l :: k)
  have hev2 : ({ tmps := a.tmps, defers := mark ++ a.defers } : Act).eval = a.eval := rfl
  simp only [Frame.atR] at hev
  simp only [stepG, stepG.exec, Frame.atR, Sem.runT_eq, he, GStep.bare_after, hev, hev2]

theorem enter_rel (hS : Sim P.globals.size ρ S w) {fi : FI} {b : Frame} (hx : Ctx ρ fi b) {fr : Fr} {a : Act} (ha : ARel ρ fr a) {ds : Nat} {mark : List VDef} {S1 : St}
    (h : (match fi.round with
      | none => some (S.nx, [VDef.collected S.nx], ({ h := S.h.set S.nx (.deferred (some [])), nx := S.nx + 1 } : St))
      | some l => match loopAt S l with
        | some lo => some (lo.defers, [], S)
        | none => none) = some (ds, mark, S1)) (ps : Array Tmp) (x y : Code) :
    ∃ ρ' mark' w' lr, (Instr.enterLoop b.fn a.tmps ps x y b.roundOf).run P w = .ok (lr, mark') w' ∧ ρ' S1.nx = some (lr, 0, 0) ∧ DRels ρ' mark mark' ∧
      Goes P.globals.size ρ S w ρ' { h := S1.h.set S1.nx (.loop { state := .ready, pending := none, fn := fi.fn, t := fr.t, n := fr.n, params := ps.toList, assign := x, body := y, defers := ds }), nx := S1.nx + 1 } w' := by
  have hr := hx.round
  cases hf : fi.round with
  | none =>
    simp only [hf, Option.some.injEq, Prod.mk.injEq] at h hr
    obtain ⟨rfl, rfl, rfl⟩ := h
    have h1 := Goes.alloc hS 0 (.deferred (some [])) (.deferred (some [])) fun _ _ => .deferred .nil
    have h2 := Goes.alloc h1.sim 0 (.loop { state := .ready, pending := none, fn := fi.fn, t := fr.t, n := fr.n, params := ps.toList, assign := x, body := y, defers := S.nx })
      (.loop { state := .ready, pending := none, fn := b.fn, tmps := a.tmps, params := ps, assign := x, body := y, defers := w.heap.size })
      fun ρ' hle => .loop ⟨rfl, rfl, hx.fn, (ha.1.mono h1.ext).mono hle, rfl, rfl, rfl, 0, 0, hle _ _ (by simp [Ren.add])⟩
    refine ⟨_, _, _, _, by rw [hr]; exact run_enterLoop_outer _ _ _ _ _, ?_, .cons (.collected (b := 0) (n := 0) (h2.ext _ _ (by simp [Ren.add]))) .nil, h1.trans h2⟩
    simp [Ren.add, World.add]
  | some l =>
    simp only [hf] at h hr
    obtain ⟨_, r, n, k, hl, hro⟩ := hr
    cases hlo : loopAt S l with
    | none => simp [hlo] at h
    | some lo =>
      simp only [hlo, Option.some.injEq, Prod.mk.injEq] at h
      obtain ⟨rfl, rfl, rfl⟩ := h
      obtain ⟨hget, r0, b0, n0, lo', q1, q2, q3⟩ := loopAt_rel hS hlo
      rw [hl] at q1
      cases q1
      have h2 := Goes.alloc hS 0 (.loop { state := .ready, pending := none, fn := fi.fn, t := fr.t, n := fr.n, params := ps.toList, assign := x, body := y, defers := lo.defers })
        (.loop { state := .ready, pending := none, fn := b.fn, tmps := a.tmps, params := ps, assign := x, body := y, defers := lo'.defers })
        fun ρ' hle => .loop ⟨rfl, rfl, hx.fn, ha.1.mono hle, rfl, rfl, rfl, let ⟨b, n, hd⟩ := q3.defers; ⟨b, n, hle _ _ hd⟩⟩
      exact ⟨_, _, _, _, by rw [hro]; exact run_enterLoop_inner q2 _ _ _ _ _, by simp [Ren.add], .nil, h2⟩

theorem rangeFuncV_sound {ov : Ov} {r : Rec} (hs : Sounds P ov r) : RangeSound P ov r := by
  intro fi f ps x y fr S L h ρ w b C p a k hS hx hrc ha
  unfold rangeFuncV at h
  split at h
  · cases h
  · rename_i ds mark S1 hent
    obtain ⟨ρ1, mark', w1, lr, e1, e2, e3, hg1⟩ := enter_rel hS hx ha hent ps x y
    have ha1 : ARel ρ1 { fr with ds := mark ++ fr.ds } { a with defers := mark' ++ a.defers } := ⟨ha.1.mono hg1.ext, e3.append (ha.2.mono hg1.ext)⟩
    have hf := ha1.ev hg1.sim f
    simp only at h
    cases hv : ({ fr with ds := mark ++ fr.ds } : Fr).ev P.globals.size f with
    | func fn first captured =>
      simp only [hv] at h
      cases hy : yieldOk fn captured with
      | false => simp [hy] at h
      | true =>
        simp only [hy] at h
        rw [hv] at hf
        have hq : ∃ q, ({ a with defers := mark' ++ a.defers } : Act).eval f = q := ⟨_, rfl⟩
        obtain ⟨q, hq⟩ := hq
        rw [hq] at hf
        cases hf with
        | func hfn h1 h2 =>
          rename_i fn' f' c'
          obtain ⟨l, hl, hall⟩ := bindL_spec h
          have hcap : ∀ l, fn = .yield l → c' = #[] := by
            rintro l rfl
            cases captured with
            | nil => have := h2.length; simpa using this
            | cons x y => simp [yieldOk] at hy
          have hargs : VRels ρ1 (first ++ [VV.func (.yield S1.nx) [] []] ++ captured) ((f' ++ #[Value.func (.yield lr) #[] #[]]) ++ c').toList := by
            simp only [Array.toList_append]
            exact ((h1.append (.cons (.func (.yield e2) .nil .nil) .nil)).append h2)
          have hq' : a.eval f = .func fn' f' c' := hq
          obtain ⟨e, rc', S2, hm, ρ2, w2, hg2, hgo⟩ := callV_sound hs.rec_ hs.ov_ hs.count hs.call hl hg1.sim hfn hargs rfl
            (s := do let d ← resolve a.eval (rangeCall f lr) 0; invoke d.target d.args) (by
              simp only [resolve, rangeCall, Deferred.ofValue, hq', Sem.run_bind, Sem.run_pure, Result.andThen_ok]
              simp [Act.eval]) hcap (b.atR { a with defers := mark' ++ a.defers } (.inRangeFunc lr :: k)) (C.at p) (.inr ⟨_, _, rfl⟩)
          obtain ⟨R, hR, hsub⟩ := hall _ hm
          have hg := hg1.trans hg2
          have ha2 := ha1.mono hg2.ext
          cases e with
          | panicked ch =>
            simp only [Option.some.injEq] at hR
            subst hR
            obtain ⟨ch', hch, happ⟩ := hgo
            exact ⟨_, _, _, hsub _ (List.mem_singleton.2 rfl), ρ2, w2, p, _, hg, hrc.mono hg.ext, ha2, _, ch', hch, steps_range e1 happ⟩
          | returned v =>
            obtain ⟨v', _, happ⟩ := hgo
            simp only at hR
            cases hlo : loopAt S2 S1.nx with
            | none => simp [hlo] at hR
            | some lo =>
              simp only [hlo] at hR
              obtain ⟨hget, r0, b0, n0, lo', q1, q2, q3⟩ := loopAt_rel hg2.sim hlo
              have e2' := hg2.ext _ _ e2
              rw [e2'] at q1
              cases q1
              have hgl : Goes P.globals.size ρ2 S2 w2 ρ2 (putLoop S2 S1.nx { lo with state := .exhausted }) (w2.putObj lr (.loop { lo' with state := .exhausted })) :=
                putLoop_goes hg2.sim hget e2' ⟨rfl, q3.pending, q3.fn, q3.tmps, q3.params, q3.assign, q3.body, q3.defers⟩
              have hgg := hg.trans hgl
              generalize putLoop S2 S1.nx { lo with state := .exhausted } = S3 at hgg hR
              -- the loop's end
              have fin : lo.state ≠ .busy → ∀ k', (lo.pending.map Item.code).toList = k' → Steps P (lone (b.atR a (.code (.rangeFunc f ps x y) :: k)) (C.at p) w)
                  (lone (b.atR { a with defers := mark' ++ a.defers } (k' ++ k)) (C.at p) (w2.putObj lr (.loop { lo' with state := .exhausted }))) := fun hst k' hk' => by
                have s1 := steps_range e1 happ
                rw [finish_atR_inRangeFunc] at s1
                have s2 := stepR_endRangeFunc (b := b) (a := { a with defers := mark' ++ a.defers }) (k := k) (cs := C.at p) (run_endLoop (P := P) q2 (by rw [q3.state]; exact hst))
                rw [show (lo'.pending.map Item.code).toList = k' by rw [q3.pending]; exact hk'] at s2
                exact s1.trans (.one s2)
              have fin2 : ∀ {x1 : Ex}, R = [(x1, ({ fr with ds := mark ++ fr.ds } : Fr), S3)] →
                  Reach P (lone (b.atR a (.code (.rangeFunc f ps x y) :: k)) (C.at p) w) b k (C.at p) ρ2 x1 { a with defers := mark' ++ a.defers } (w2.putObj lr (.loop { lo' with state := .exhausted })) →
                  CodeIs P P.globals.size L ρ S w b C (lone (b.atR a (.code (.rangeFunc f ps x y) :: k)) (C.at p) w) k := by
                rintro x1 rfl hre
                exact ⟨_, _, _, hsub _ (List.mem_singleton.2 rfl), ρ2, _, p, _, hgg, hrc.mono hgg.ext, ha2, hre⟩
              have done : lo.state ≠ .busy → (match lo.pending with
                  | none => some [(Ex.normal, ({ fr with ds := mark ++ fr.ds } : Fr), S3)]
                  | some .ret => some [(Ex.ret, ({ fr with ds := mark ++ fr.ds } : Fr), S3)]
                  | some (.exit id) => some [(Ex.exit id, ({ fr with ds := mark ++ fr.ds } : Fr), S3)]
                  | some _ => none) = some R → CodeIs P P.globals.size L ρ S w b C (lone (b.atR a (.code (.rangeFunc f ps x y) :: k)) (C.at p) w) k := fun hst hR => by
                have hfin := fin hst
                cases hp : lo.pending with
                | none =>
                  simp only [hp, Option.some.injEq] at hR
                  exact fin2 (x1 := .normal) hR.symm (hfin [] (by rw [hp]; rfl))
                | some c =>
                  have hfin := hfin [.code c] (by rw [hp]; rfl)
                  cases c <;> simp only [hp, Option.some.injEq, reduceCtorEq] at hR
                  · exact fin2 (x1 := .exit _) hR.symm ⟨k, rfl, hfin⟩
                  · exact fin2 (x1 := .ret) hR.symm ⟨k, hfin⟩
              cases hst : lo.state with
              | busy => simp [hst] at hR
              | _ => simp only [hst] at hR; exact done (by simp [hst]) hR
    | _ => simp [hv] at h

end Go.Vm

/-
  A virtual semantics of the model's code (27): frames: calls, deferred calls, results.
-/
namespace Go.Vm
variable {P : Program} {G : Nat} {ρ ρ' : Ren} {S : St} {w : World}

theorem CallIs.of_steps {L : CallR} {f : FuncId} {kind : CallKind} {C : Callers} {m m1 : Machine} (h : Steps P m m1) (hc : CallIs P G L ρ S w f kind C m1) : CallIs P G L ρ S w f kind C m := by
  obtain ⟨e, rc', S', h1, ρ', w', p', fr, h2, h3, h4, h5⟩ := hc
  exact ⟨e, rc', S', h1, ρ', w', p', fr, h2, h3, h.trans h4, h5⟩

theorem CallIs.of_goes {L L' : CallR} {f : FuncId} {kind : CallKind} {C : Callers} {m : Machine} {ρ1 : Ren} {S1 : St} {w1 : World} (h : Goes G ρ S w ρ1 S1 w1) (hc : CallIs P G L ρ1 S1 w1 f kind C m) (hL : ∀ y ∈ L, y ∈ L') : CallIs P G L' ρ S w f kind C m := by
  obtain ⟨e, rc', S', h1, ρ', w', p', fr, h2, h3, h4, h5⟩ := hc
  exact ⟨e, rc', S', hL _ h1, ρ', w', p', fr, h.trans h2, h3, h4, h5⟩

theorem resultsV_rel (hS : Sim G ρ S w) {t : Tr VV} {n : Nat} {tmps : Array Value} (ht : TRel ρ t n tmps) : ∀ {l : List ResultVar} {vs : List VV}, resultsV P t S l = some vs →
    ∃ vs', (l.mapM (m := Sem) fun
      | .tmp t => pure (tmps.getD t undef)
      | .cell a t => do loadVar t (← asAddr (tmps.getD a undef))).run P w = .ok vs' w ∧ VRels ρ vs vs'
  | [], vs, h => by
    simp only [resultsV, Option.some.injEq] at h
    subst h
    exact ⟨[], rfl, .nil⟩
  | x :: l, vs, h => by
    simp only [resultsV] at h
    cases x with
    | tmp d =>
      simp only at h
      cases hd : t.get d with
      | none => simp [hd] at h
      | some v =>
        cases hr : resultsV P t S l with
        | none => simp [hd, hr] at h
        | some r =>
          simp only [hd, hr, Option.some.injEq] at h
          subst h
          obtain ⟨vs', q1, q2⟩ := resultsV_rel hS ht hr
          refine ⟨tmps.getD d undef :: vs', ?_, .cons (ht.2 d v hd) q2⟩
          rw [List.mapM_cons]
          simp only [Sem.run_bind, Sem.run_pure, Result.andThen_ok, q1]
    | cell d ty =>
      simp only at h
      cases hd : t.get d with
      | none => simp [hd] at h
      | some u =>
        have hu := ht.2 d u hd
        cases u with
        | ptr pa =>
          cases pa with
          | none => simp [hd] at h
          | some pa =>
            obtain ⟨id, off⟩ := pa
            simp only [hd] at h
            cases hv : loadVarV P S ty id off with
            | none => simp [hv] at h
            | some v =>
              cases hr : resultsV P t S l with
              | none => simp [hv, hr] at h
              | some r =>
                simp only [hv, hr, Option.some.injEq] at h
                subst h
                obtain ⟨vs', q1, q2⟩ := resultsV_rel hS ht hr
                obtain ⟨rb, b, n', hρ, v', hvv, hrun⟩ := r_loadVar hS hv
                generalize hq : tmps.getD d undef = q at hu
                cases hu with
                | ptr hρ' =>
                  rw [hρ] at hρ'
                  cases hρ'
                  refine ⟨v' :: vs', ?_, .cons hvv q2⟩
                  rw [List.mapM_cons]
                  have haddr : (asAddr (tmps.getD d undef)).run P w = .ok ⟨rb, b + off, none⟩ w := by rw [hq]; rfl
                  simp only [Sem.run_bind, haddr, Sem.run_pure, Result.andThen_ok, hrun, q1]
        | _ => simp [hd] at h

theorem results_rel (hS : Sim G ρ S w) {t : Tr VV} {n : Nat} {tmps : Array Value} (ht : TRel ρ t n tmps) {fn : Func} {vs : List VV} (h : resultsV P t S fn.results.toList = some vs) :
    ∃ v', (results fn tmps).run P w = .ok v' w ∧ VRel ρ (oneOf vs) v' := by
  obtain ⟨vs', h1, h2⟩ := resultsV_rel hS ht h
  have h3 : (fn.results.mapM (m := Sem) fun
      | .tmp t => pure (tmps.getD t undef)
      | .cell a t => do loadVar t (← asAddr (tmps.getD a undef))).run P w = .ok vs'.toArray w := by
    rw [Array.mapM_eq_mapM_toList, Sem.run_map, h1]
    rfl
  refine ⟨if h : vs'.toArray.size = 1 then vs'.toArray[0] else .tuple vs'.toArray, ?_, ?_⟩
  · unfold results
    rw [Sem.run_bind]
    exact (congrArg (fun q => Result.andThen q fun (a : Array Value) w' => Sem.run P (pure (if h : a.size = 1 then a[0] else Value.tuple a)) w') h3).trans rfl
  · cases h2 with
    | nil => exact .tuple .nil
    | cons hv ht =>
      cases ht with
      | nil => exact hv
      | cons hv2 ht2 => exact .tuple (.cons hv (.cons hv2 ht2))

theorem frame_rel {fn : Func} {args : List VV} {args' : Array Value} {rc : Option (List VPan)} (ha : VRels ρ args args'.toList) :
    ARel ρ (frameV fn args rc) { tmps := args' ++ Array.replicate (fn.ntmps - args'.size) undef, defers := [] } := by
  have hl := ha.length
  rw [Array.length_toList] at hl
  refine ⟨⟨?_, ?_⟩, .nil⟩
  · simp only [frameV, Array.size_append, Array.size_replicate, hl]
    show args.length + (fn.ntmps - args.length) = max fn.ntmps args.length
    omega
  · intro i v hv
    simp only [frameV, Tr.get_setAll, Tr.get_nil] at hv
    split at hv
    · rename_i hi
      obtain ⟨v', q1, q2⟩ := ha.get hv
      have : (args' ++ Array.replicate (fn.ntmps - args'.size) undef).getD i undef = v' := by
        rw [Array.getD_eq_getD_getElem?, Array.getElem?_append_left (by omega)]
        simp only [Nat.sub_zero, Array.getElem?_toList] at q1
        rw [q1]
        rfl
      rw [this]
      exact q2
    · cases hv

theorem callFuncV_sound {r : Rec} (hr : RecSound P r) : CallSound P (callFuncV P r) := by
  intro f args rc S L h ρ w kind C p args' hS hrc ha hk
  unfold callFuncV at h
  cases hf : P.funcs[f]? with
  | none => simp [hf] at h
  | some fn =>
    cases hb : fn.body with
    | none => simp [hf, hb] at h
    | some c =>
      simp only [hf, hb] at h
      obtain ⟨l, hl, hall⟩ := bindL_spec h
      let b : Frame := { (default : Frame) with fn := f, kind := kind, roundOf := none }
      rw [show Frame.enter P f args' kind = b.atR { tmps := args' ++ Array.replicate (fn.ntmps - args'.size) undef, defers := [] } [.code c] by
        simp [Frame.enter, Frame.atR, hf, hb, b]]
      obtain ⟨x1, fr1, S1, hm, ρ1, w1, p1, a1, hg, hrc1, ha1, hre⟩ := hr.code _ _ _ _ _ hl ρ w b C p _ [] hS ⟨rfl, rfl⟩ hrc (frame_rel ha)
      obtain ⟨R, hR, hsub⟩ := hall _ hm
      cases x1 with
      | normal =>
        simp only at hR
        exact .of_goes hg (.of_steps (Steps.trans hre (.one (stepR_end rfl))) (hr.unw f none fr1 S1 R hR ρ1 w1 C p1 b a1 [] .returning hg.sim hrc1 ha1 rfl rfl hk rfl ⟨fn, hf⟩)) hsub
      | ret =>
        simp only at hR
        obtain ⟨k', hre⟩ := hre
        exact .of_goes hg (.of_steps (Steps.trans hre (.one (stepR_ret rfl))) (hr.unw f none fr1 S1 R hR ρ1 w1 C p1 b a1 _ .returning hg.sim hrc1 ha1 rfl rfl hk rfl ⟨fn, hf⟩)) hsub
      | panic ch =>
        simp only at hR
        obtain ⟨k', ch', hch, hre⟩ := hre
        exact .of_goes hg (.of_steps hre (hr.unw f (some ch) fr1 S1 R hR ρ1 w1 C p1 b a1 k' (.panicking ch') hg.sim hrc1 ha1 ⟨ch', rfl, hch⟩ rfl hk rfl ⟨fn, hf⟩)) hsub
      | exit id => simp at hR

theorem callFuncV_body {r : Rec} (f : FuncId) (args : List VV) (rc : Option (List VPan)) (S : St) (L : CallR) (h : callFuncV P r f args rc S = some L) : ∃ fn, P.funcs[f]? = some fn ∧ fn.body.isSome = true := by
  unfold callFuncV at h
  cases hf : P.funcs[f]? with
  | none => simp [hf] at h
  | some fn =>
    cases hb : fn.body with
    | none => simp [hf, hb] at h
    | some c => exact ⟨fn, rfl, by simp [hb]⟩

theorem stepR_collected {fr : Frame} {cs : List Frame} {blk : Nat} {as : Array Value} {ds calls : List Deferred} {w' : World} (hm : fr.mode ≠ .run) (hd : fr.defers = { target := .collected blk, args := as } :: ds)
    (hi : (Instr.takeDeferred blk).run P w = .ok calls w') : step P (lone fr cs w) = .next (lone { fr with defers := calls ++ ds } cs w') := by
  refine step_lone_go ?_
  cases hmode : fr.mode with
  | run => exact absurd hmode hm
  | returning => simp only [stepG, unwind, hmode, hd, Sem.runT_eq, hi, GStep.bare_after]; rfl
  | panicking chain => simp only [stepG, unwind, hmode, hd, Sem.runT_eq, hi, GStep.bare_after]; rfl

theorem takeV_rel (hS : Sim G ρ S w) {id : Nat} {ds : List VDef} {S1 : St} (h : takeV S id = some (ds, S1)) {r b n : Nat} (hρ : ρ id = some (r, b, n)) :
    ∃ ds' w', (Instr.takeDeferred r).run P w = .ok ds' w' ∧ DRels ρ ds ds' ∧ Goes G ρ S w ρ S1 w' := by
  unfold takeV at h
  cases ho : S.h.get id with
  | none => simp [ho] at h
  | some o =>
    cases o with
    | deferred c =>
      cases c with
      | none => simp [ho] at h
      | some c =>
        simp only [ho, Tr.with_eq, Option.some.injEq, Prod.mk.injEq] at h
        obtain ⟨rfl, rfl⟩ := h
        obtain ⟨r1, b1, n1, o', h1, h2, h3⟩ := hS.obj _ _ ho
        rw [hρ] at h1
        cases h1
        cases h3 with
        | deferred hd => exact ⟨_, _, run_takeDeferred h2, hd, Goes.update hS ho rfl hρ .taken⟩
    | _ => simp [ho] at h

theorem stillV_rel {mode : Option (List VPan)} {md : FrameMode} (h : ModeRel ρ mode md) : ModeRel ρ (stillV mode) (settle md) := by
  cases mode with
  | none => cases h; rfl
  | some ch =>
    obtain ⟨ch', rfl, hp⟩ := h
    cases hp with
    | nil => exact ⟨[], rfl, .nil⟩
    | cons hv ht =>
      rename_i p v' l l'
      cases hr : p.recovered with
      | true =>
        simp only [stillV, hr]
        show settle _ = .returning
        simp [settle, ht.goexit]
      | false =>
        simp only [stillV, hr]
        refine ⟨_, ?_, PanRels.cons hv ht⟩
        simp [settle, hr]

theorem raiseV_rel {mode : Option (List VPan)} {md : FrameMode} (h : ModeRel ρ mode md) {vs : List VPan} {vs' : List PanicEntry} (hv : PanRels ρ vs vs') : ModeRel ρ (some (raiseV mode vs)) (raised md vs') := by
  cases mode with
  | none => cases h; exact ⟨vs', rfl, hv⟩
  | some ch =>
    obtain ⟨ch', rfl, hp⟩ := h
    exact ⟨vs' ++ ch', rfl, hv.append hp⟩

theorem unwV_sound {r : Rec} (hr : RecSound P r) (hn : NoCount P) (hcall : ∀ f args rc S L, r.call f args rc S = some L → ∃ fn, P.funcs[f]? = some fn ∧ fn.body.isSome = true) : UnwSound P (unwV P r) := by
  intro f mode fr S L h ρ w C p b a k md hS hrc ha hm hf hk hro hfn
  have hmr : md ≠ .run := by
    cases mode with
    | none => cases hm; simp
    | some ch => obtain ⟨ch', rfl, _⟩ := hm; simp
  unfold unwV at h
  cases hds : fr.ds with
  | nil =>
    have hnil : a.defers = [] := by
      have := ha.2
      rw [hds] at this
      generalize a.defers = q at this
      cases this
      rfl
    simp only [hds] at h
    cases mode with
    | some ch =>
      simp only [Option.some.injEq] at h
      subst h
      obtain ⟨ch', rfl, hch⟩ := hm
      exact ⟨_, _, _, List.mem_singleton.2 rfl, ρ, w, p, _, .refl hS, hrc, .refl _ _, hnil, rfl, hf, hfn, ch', rfl, hch⟩
    | none =>
      cases hm
      cases hq : P.funcs[f]? with
      | none => simp [hq] at h
      | some fn =>
        simp only [hq] at h
        cases hrs : resultsV P fr.t S fn.results.toList with
        | none => simp [hrs] at h
        | some vs =>
          simp only [hrs, Option.some.injEq] at h
          subst h
          obtain ⟨v', h1, h2⟩ := results_rel (P := P) hS ha.1 hrs
          exact ⟨_, _, _, List.mem_singleton.2 rfl, ρ, w, p, _, .refl hS, hrc, .refl _ _, rfl, hnil, rfl, hf, fn, v', hq, h1, h2⟩
  | cons d ds =>
    have had := ha.2
    rw [hds] at had
    obtain ⟨d', ds', hda, hd1, hd2⟩ : ∃ d' ds', a.defers = d' :: ds' ∧ DRel ρ d d' ∧ DRels ρ ds ds' := by
      generalize a.defers = q at had
      cases had with
      | cons h1 h2 => exact ⟨_, _, rfl, h1, h2⟩
    simp only [hds] at h
    cases d with
    | collected id =>
      simp only at h
      cases ht : takeV S id with
      | none => simp [ht] at h
      | some q =>
        obtain ⟨calls, S1⟩ := q
        simp only [ht] at h
        cases hd1 with
        | collected hρ =>
          obtain ⟨calls', w1, h1, h2, h3⟩ := takeV_rel (P := P) hS ht hρ
          have hstep := stepR_collected (P := P) (fr := { b.atR a k with mode := md }) (cs := C.at p) hmr (show a.defers = _ from hda) h1
          refine .of_steps (.one hstep) (.of_goes h3 ?_ fun _ q => q)
          exact hr.unw f mode { fr with ds := calls ++ ds } S1 L h ρ w1 C p b { a with defers := calls' ++ ds' } k md h3.sim hrc ⟨ha.1, h2.append hd2⟩ hm hf hk hro hfn
    | fn tf cap args =>
      cases tf with
      | func g =>
        simp only at h
        obtain ⟨l, hl, hall⟩ := bindL_spec h
        cases hd1 with
        | fn hfr hcap hargs =>
          rename_i fn' c' a'
          cases hfr
          obtain ⟨fng, hg1, hg2⟩ := hcall _ _ _ _ _ hl
          have hinv : (invoke (.fn (.func g) c') a').run P w = .ok (.enter g (a' ++ c')) w := callFunc_enter hn hg1 hg2 (a' ++ c') w
          have hvr : VRels ρ (args ++ cap) (a' ++ c').toList := by rw [Array.toList_append]; exact hargs.append hcap
          have hstep := step_defer (P := P) (fr := { b.atR a k with mode := md }) (cs := C.at p) (w := w) hmr (show a.defers = _ from hda) rfl hinv
          -- the callers of the deferred call
          have key : ∃ C2 p2, C2.at p2 = { b.atR { a with defers := ds' } k with mode := md } :: C.at p ∧ RcRel ρ .deferred C2 mode p2 ∧
              ∀ ρ' mode' p', RcRel ρ' .deferred C2 mode' p' → ∃ md', C2.at p' = { b.atR { a with defers := ds' } k with mode := md' } :: C.at p ∧ ModeRel ρ' mode' md' := by
            cases mode with
            | none =>
              cases hm
              refine ⟨.fixed ({ b.atR { a with defers := ds' } k with mode := .returning } :: C.at p), none, rfl, .fixed fun fr hfr => by simp [tryRecover, hfr], ?_⟩
              intro ρ' mode' p' hq
              cases hq
              exact ⟨_, rfl, rfl⟩
            | some ch =>
              obtain ⟨ch', rfl, hch⟩ := hm
              refine ⟨.over { b.atR { a with defers := ds' } k with mode := .returning } (C.at p), some ch', rfl, .over rfl hch, ?_⟩
              intro ρ' mode' p' hq
              cases hq with
              | over _ hq => exact ⟨_, rfl, _, rfl, hq⟩
          obtain ⟨C2, p2, k1, k2, k3⟩ := key
          obtain ⟨e, rc', S1, hm1, ρ1, w1, p', frx, hg, hrc1, hsteps, hleft⟩ := hr.call g (args ++ cap) mode S l hl ρ w .deferred C2 p2 (a' ++ c') hS k2 hvr (.inr rfl)
          obtain ⟨md', hcs, hmd⟩ := k3 _ _ _ hrc1
          obtain ⟨R, hR, hsub⟩ := hall _ hm1
          rw [k1, hcs] at hsteps
          refine .of_steps (.head hstep hsteps) (.of_goes hg ?_ hsub)
          cases e with
          | returned v =>
            simp only at hR
            obtain ⟨m1, m2, m3, m4, fn0, v', m5, m6, m7⟩ := hleft
            have hst := step_going_returned (P := P) (fr := frx) (c := { b.atR { a with defers := ds' } k with mode := md' }) (cs := C.at p) (w := w1) (v := v') m3 ⟨m1, m2, fn0, by rw [m4]; exact m5, m6⟩
            exact .of_steps (.one hst) (hr.unw f (stillV rc') { fr with ds := ds } S1 R hR ρ1 w1 C p b { a with defers := ds' } k (settle md') hg.sim (hrc.mono hg.ext) ⟨ha.1.mono hg.ext, hd2.mono hg.ext⟩ (stillV_rel hmd) hf hk hro hfn)
          | panicked vs =>
            simp only at hR
            obtain ⟨m1, m2, m3, ⟨fn0, m5⟩, vs', m6, m7⟩ := hleft
            have hst := step_going_panicked (P := P) (fr := frx) (c := { b.atR { a with defers := ds' } k with mode := md' }) (cs := C.at p) (w := w1) (chain := vs') ⟨m6, m1, fn0, by rw [m3]; exact m5⟩
            exact .of_steps (.one hst) (hr.unw f (some (raiseV rc' vs)) { fr with ds := ds } S1 R hR ρ1 w1 C p b { a with defers := ds' } k (raised md' vs') hg.sim (hrc.mono hg.ext) ⟨ha.1.mono hg.ext, hd2.mono hg.ext⟩ (raiseV_rel hmd m7) hf hk hro hfn)
      | _ => simp at h
    | nil => simp at h

end Go.Vm

/-
  A virtual semantics of the model's code (28): orders of a region.
-/
namespace Go.Vm
variable {P : Program} {ops : Array Oper}

/-- j must be ahead of i, by an edge -/
def Edge1 (ops : Array Oper) (j i : Nat) : Prop := ∃ o, ops[i]? = some o ∧ ∃ e ∈ o.after, Region.binds .any e = true ∧ e.on = j

structure DrawOk (P : Program) (ops : Array Oper) : Prop where
  back : ∀ i j, Edge1 ops j i → j < i
  one : ∀ (i : Nat) (o : Oper) (d : Tmp), ops[i]? = some o → o.dst = some d → ∀ (j : Nat) (p : Oper), ops[j]? = some p → p.dst = some d → i = j
  looks : ∀ (i : Nat) (o : Oper), ops[i]? = some o → ∀ t ∈ looksV ops o, ∀ j, writerOf ops.toList t 0 = some j → j = i ∨ befB (Region.before ops) j i = true ∨ befB (Region.before ops) i j = true
  total : ∀ (i : Nat) (o : Oper), ops[i]? = some o → kindOf P o.op = 2 → ∀ (j : Nat) (p : Oper), ops[j]? = some p → kindOf P p.op = 2 → i = j ∨ befB (Region.before ops) j i = true ∨ befB (Region.before ops) i j = true

theorem drawOk_spec (h : drawOk P ops = true) : DrawOk P ops := by
  unfold drawOk at h
  simp only [List.all_eq_true] at h
  have key : ∀ i o, ops[i]? = some o → (o, i) ∈ ops.toList.zipIdx := fun i o ho => by
    rw [List.mk_mem_zipIdx_iff_getElem?]
    simpa using ho
  refine ⟨?_, ?_, ?_, ?_⟩
  · rintro i j ⟨o, ho, e, he, hb, rfl⟩
    have h1 := h (o, i) (key i o ho)
    simp only [Bool.and_eq_true] at h1
    have h2 := Array.all_eq_true'.1 h1.1.1.1.1 e he
    simpa [hb, Nat.blt_eq] using h2
  · intro i o d ho hd j p hp hpd
    have h1 := h (o, i) (key i o ho)
    simp only [Bool.and_eq_true, hd] at h1
    have h2 := List.all_eq_true.1 h1.1.1.1.2 (p, j) (key j p hp)
    simp only [hpd, bne_self_eq_false, Bool.or_false, beq_iff_eq] at h2
    exact h2
  · intro i o ho t ht j hj
    have h1 := h (o, i) (key i o ho)
    simp only [Bool.and_eq_true] at h1
    have h2 := List.all_eq_true.1 h1.1.1.2 t ht
    simp only [hj, Bool.or_eq_true, beq_iff_eq] at h2
    rcases h2 with (h2 | h2) | h2
    · exact .inl h2
    · exact .inr (.inl h2)
    · exact .inr (.inr h2)
  · intro i o ho hk j p hp hkp
    have h1 := h (o, i) (key i o ho)
    simp only [Bool.and_eq_true] at h1
    have h2 := h1.1.2
    simp only [hk, bne_self_eq_false, Bool.false_or] at h2
    have h3 := List.all_eq_true.1 h2 (p, j) (key j p hp)
    simp only [hkp, bne_self_eq_false, Bool.or_false, Bool.or_eq_true, beq_iff_eq] at h3
    rcases h3 with (h3 | h3) | h3
    · exact .inl h3
    · exact .inr (.inl h3)
    · exact .inr (.inr h3)

/-- one more of the bits -/
def befStep (acc : Array Nat) (o : Oper) : Nat := o.after.foldl (fun s e => if Region.binds .any e then s ||| 2 ^ e.on ||| acc.getD e.on 0 else s) 0

theorem befStep_bit {f : Nat → Nat} {j : Nat} : ∀ (l : List Edge) (s : Nat), (l.foldl (fun s e => if Region.binds .any e then s ||| 2 ^ e.on ||| f e.on else s) s).testBit j = true →
    s.testBit j = true ∨ ∃ e ∈ l, Region.binds .any e = true ∧ (j = e.on ∨ (f e.on).testBit j = true)
  | [], s, h => .inl h
  | e :: l, s, h => by
    rw [List.foldl_cons] at h
    rcases befStep_bit l _ h with h1 | ⟨e', h1, h2⟩
    · by_cases hb : Region.binds .any e = true
      · rw [if_pos hb] at h1
        simp only [Nat.testBit_or, Bool.or_eq_true, Nat.testBit_two_pow, decide_eq_true_eq] at h1
        rcases h1 with (h1 | h1) | h1
        · exact .inl h1
        · exact .inr ⟨e, by simp, hb, .inl h1.symm⟩
        · exact .inr ⟨e, by simp, hb, .inr h1⟩
      · rw [if_neg hb] at h1
        exact .inl h1
    · exact .inr ⟨e', by simp [h1], h2⟩

theorem before_list : ∀ (l : List Oper) (acc : Array Nat), 
    (l.foldl (fun acc o => acc.push (befStep acc o)) acc).size = acc.size + l.length ∧
    (∀ i, i < acc.size → (l.foldl (fun acc o => acc.push (befStep acc o)) acc).getD i 0 = acc.getD i 0) ∧
    (∀ k o, l[k]? = some o → ∃ acc' : Array Nat, acc'.size = acc.size + k ∧ (∀ i, i < acc.size + k → acc'.getD i 0 = (l.foldl (fun acc o => acc.push (befStep acc o)) acc).getD i 0) ∧
      (l.foldl (fun acc o => acc.push (befStep acc o)) acc).getD (acc.size + k) 0 = befStep acc' o)
  | [], acc => ⟨rfl, fun _ _ => rfl, by simp⟩
  | o :: l, acc => by
    obtain ⟨h1, h2, h3⟩ := before_list l (acc.push (befStep acc o))
    simp only [List.foldl_cons]
    have hp : ∀ i, i < acc.size → (acc.push (befStep acc o)).getD i 0 = acc.getD i 0 := fun i hi => by
      simp only [Array.getD_eq_getD_getElem?, Array.getElem?_push]
      rw [if_neg (by omega)]
    refine ⟨by rw [h1]; simp; omega, fun i hi => by rw [h2 i (by simp; omega), hp i hi], ?_⟩
    intro k o' hk
    cases k with
    | zero =>
      simp only [List.getElem?_cons_zero, Option.some.injEq] at hk
      subst hk
      refine ⟨acc, rfl, fun i hi => ?_, ?_⟩
      · rw [h2 i (by simp; omega), hp i (by omega)]
      · rw [Nat.add_zero, h2 _ (by simp)]
        simp [Array.getD_eq_getD_getElem?]
    | succ k =>
      obtain ⟨acc', q1, q2, q3⟩ := h3 k o' (by simpa using hk)
      simp only [Array.size_push] at q1 q2 q3
      refine ⟨acc', by omega, fun i hi => q2 i (by omega), ?_⟩
      rw [show acc.size + (k + 1) = acc.size + 1 + k by omega]
      exact q3

theorem before_eq (ops : Array Oper) : Region.before ops = ops.toList.foldl (fun acc o => acc.push (befStep acc o)) #[] := by
  unfold Region.before befStep
  rw [Array.foldl_toList]

theorem bef_lt (j i : Nat) (h : befB (Region.before ops) j i = true) : i < ops.size := by
  unfold befB at h
  obtain ⟨h1, -, -⟩ := before_list ops.toList #[]
  rw [← before_eq] at h1
  simp at h1
  by_cases hi : i < ops.size
  · exact hi
  · have : (Region.before ops).getD i 0 = 0 := by
      rw [Array.getD_eq_getD_getElem?, Array.getElem?_eq_none (by omega)]
      rfl
    rw [this] at h
    simp at h

theorem bef_edge (hb : ∀ i j, Edge1 ops j i → j < i) {j i : Nat} (h : befB (Region.before ops) j i = true) : ∃ k, Edge1 ops k i ∧ (j = k ∨ befB (Region.before ops) j k = true) := by
  have hi := bef_lt j i h
  obtain ⟨-, -, h3⟩ := before_list ops.toList #[]
  obtain ⟨acc', q1, q2, q3⟩ := h3 i ops[i] (by simp [hi])
  rw [← before_eq] at q2 q3
  simp only [List.size_toArray, List.length_nil, Nat.zero_add] at q1 q2 q3
  unfold befB at h
  rw [q3] at h
  unfold befStep at h
  rw [← Array.foldl_toList] at h
  rcases befStep_bit (f := fun k => acc'.getD k 0) _ _ h with h | ⟨e, he, hbd, h⟩
  · simp at h
  · have hed : Edge1 ops e.on i := ⟨ops[i], by simp [hi], e, by simpa using he, hbd, rfl⟩
    refine ⟨e.on, hed, h.imp id fun h => ?_⟩
    unfold befB
    rw [← q2 _ (hb _ _ hed)]
    exact h

theorem bef_back (hb : ∀ i j, Edge1 ops j i → j < i) : ∀ (i j : Nat), befB (Region.before ops) j i = true → j < i := by
  intro i
  induction i using Nat.strongRecOn with
  | ind i ih =>
    intro j h
    obtain ⟨k, hk, h⟩ := bef_edge hb h
    have := hb _ _ hk
    rcases h with rfl | h
    · exact this
    · exact Nat.lt_trans (ih k this j h) this

/-- an order that the edges allow -/
structure Topo (ops : Array Oper) (l : List Nat) : Prop where
  nodup : l.Nodup
  all : ∀ i, i ∈ l ↔ i < ops.size
  bef : ∀ E i R, l = E ++ i :: R → ∀ j, befB (Region.before ops) j i = true → j ∈ E

theorem linearise_go (hb : ∀ i j, Edge1 ops j i → j < i) : ∀ (fuel t : Nat) (listed : Array Bool), listed.size = ops.size → ((List.range ops.size).filter fun i => !listed.getD i true).length ≤ fuel →
    ∃ l, Region.linearise.go .any ops fuel t listed [] = l ∧ l.Nodup ∧ (∀ i, i ∈ l ↔ (i < ops.size ∧ listed.getD i true = false)) ∧
      ∀ E i R, l = E ++ i :: R → ∀ k, Edge1 ops k i → listed.getD k false = true ∨ k ∈ E := by
  intro fuel
  induction fuel with
  | zero =>
    intro t listed hsz hf
    refine ⟨[], rfl, .nil, ?_, by simp⟩
    intro i
    have h0 : ((List.range ops.size).filter fun i => !listed.getD i true) = [] := List.eq_nil_of_length_eq_zero (by omega)
    rw [List.filter_eq_nil_iff] at h0
    constructor
    · intro h; cases h
    · rintro ⟨h1, h2⟩
      exact absurd (by simp only [h2]; rfl) (h0 i (List.mem_range.2 h1))
  | succ fuel ih =>
    intro t listed hsz hf
    have hgo : Region.linearise.go .any ops (fuel + 1) t listed [] = match (Region.ready .any ops listed)[t % (Region.ready .any ops listed).length]? with
      | some i => Region.linearise.go .any ops fuel (t / (Region.ready .any ops listed).length) (listed.setIfInBounds i true) [i]
      | none => [] := rfl
    rw [hgo]
    have hsame : ∀ k, k < ops.size → listed.getD k true = listed.getD k false := fun k hk => by
      simp only [Array.getD_eq_getD_getElem?, Array.getElem?_eq_getElem (show k < listed.size by omega), Option.getD_some]
    cases hi : (Region.ready .any ops listed)[t % (Region.ready .any ops listed).length]? with
    | none =>
      have hnil : Region.ready .any ops listed = [] := by
        cases hr : Region.ready .any ops listed with
        | nil => rfl
        | cons x xs =>
          rw [hr] at hi
          have hlt : t % (x :: xs).length < (x :: xs).length := Nat.mod_lt _ (by simp)
          rw [List.getElem?_eq_getElem hlt] at hi
          cases hi
      have hall : ∀ i, i < ops.size → listed.getD i true = true := by
        intro i
        induction i using Nat.strongRecOn with
        | ind i ih2 =>
          intro hlt
          cases hq : listed.getD i true with
          | true => rfl
          | false =>
            have : i ∈ Region.ready .any ops listed := by
              unfold Region.ready
              refine List.mem_filter.2 ⟨List.mem_range.2 hlt, ?_⟩
              rw [Array.getElem?_eq_getElem hlt]
              simp only [hq, Option.map_some, Option.getD_some, Bool.not_false, Bool.true_and]
              rw [Array.all_eq_true']
              intro e he
              cases hbd : Region.binds .any e with
              | false => rfl
              | true =>
                have h1 := hb i e.on ⟨ops[i], by simp [hlt], e, he, hbd, rfl⟩
                have h2 := ih2 e.on h1 (by omega)
                rw [hsame _ (by omega)] at h2
                simp [h2]
            rw [hnil] at this
            cases this
      refine ⟨[], rfl, .nil, fun i => ⟨fun h => absurd h (by simp), ?_⟩, by simp⟩
      rintro ⟨h1, h2⟩
      rw [hall i h1] at h2
      cases h2
    | some i =>
      simp only
      have hmem := List.mem_of_getElem? hi
      unfold Region.ready at hmem
      rw [List.mem_filter, List.mem_range] at hmem
      obtain ⟨hlt, hrd⟩ := hmem
      rw [Array.getElem?_eq_getElem hlt] at hrd
      simp only [Option.map_some, Option.getD_some, Bool.and_eq_true, Bool.not_eq_true'] at hrd
      obtain ⟨hun, hedges⟩ := hrd
      rw [linearise_go_acc, List.reverse_singleton, List.singleton_append]
      have hset : ∀ k d, (listed.setIfInBounds i true).getD k d = if k = i then true else listed.getD k d := fun k d => by
        simp only [Array.getD_eq_getD_getElem?, getElem?_setIfInBounds]
        by_cases e : k = i
        · subst e; simp [hsz, hlt]
        · rw [if_neg (by rintro ⟨rfl, _⟩; exact e rfl), if_neg e]
      have hcount : ((List.range ops.size).filter fun k => !(listed.setIfInBounds i true).getD k true).length ≤ fuel := by
        have hsub : ((List.range ops.size).filter fun k => !(listed.setIfInBounds i true).getD k true) = ((List.range ops.size).filter fun k => !listed.getD k true).filter (· != i) := by
          rw [List.filter_filter]
          refine List.filter_congr fun k _ => ?_
          rw [hset]
          by_cases e : k = i
          · simp [e]
          · simp [e]
        rw [hsub]
        have hin : i ∈ (List.range ops.size).filter fun k => !listed.getD k true := List.mem_filter.2 ⟨List.mem_range.2 hlt, by rw [hun]; rfl⟩
        have := List.length_filter_lt_length_iff_exists (p := (· != i)) |>.2 ⟨i, hin, by simp⟩
        omega
      obtain ⟨l, q1, q2, q3, q4⟩ := ih (t / (Region.ready .any ops listed).length) (listed.setIfInBounds i true) (by simpa using hsz) hcount
      refine ⟨i :: l, by rw [q1], ?_, ?_, ?_⟩
      · refine List.nodup_cons.2 ⟨fun h => ?_, q2⟩
        have := ((q3 i).1 h).2
        rw [hset] at this
        simp at this
      · intro k
        rw [List.mem_cons, q3, hset]
        by_cases e : k = i
        · subst e; simp [hlt, hun]
        · simp [e]
      · intro E i' R hl k hk
        cases E with
        | nil =>
          simp only [List.nil_append, List.cons.injEq] at hl
          obtain ⟨rfl, rfl⟩ := hl
          obtain ⟨o, ho, e, he, hbd, rfl⟩ := hk
          rw [Array.getElem?_eq_getElem hlt] at ho
          cases ho
          have := Array.all_eq_true'.1 hedges e he
          simp only [hbd, Bool.not_true, Bool.false_or] at this
          exact .inl this
        | cons x E =>
          simp only [List.cons_append, List.cons.injEq] at hl
          obtain ⟨rfl, hl⟩ := hl
          rcases q4 E i' R hl k hk with h | h
          · rw [hset] at h
            by_cases e : k = i
            · exact .inr (by simp [e])
            · rw [if_neg e] at h; exact .inl h
          · exact .inr (by simp [h])

theorem linearise_topo (hb : ∀ i j, Edge1 ops j i → j < i) (t : Nat) : Topo ops (Region.linearise .any ops t) := by
  obtain ⟨l, h1, h2, h3, h4⟩ := linearise_go hb ops.size t (Array.replicate ops.size false) (by simp) (by
    refine Nat.le_trans (List.length_filter_le _ _) (by simp))
  have hl : Region.linearise .any ops t = l := h1
  rw [hl]
  have hfalse : ∀ k, (Array.replicate ops.size false).getD k false = false := fun k => by
    rw [Array.getD_eq_getD_getElem?, Array.getElem?_replicate]
    split <;> rfl
  refine ⟨h2, ?_, ?_⟩
  · intro i
    rw [h3]
    refine ⟨And.left, fun h => ⟨h, ?_⟩⟩
    rw [Array.getD_eq_getD_getElem?, Array.getElem?_replicate, if_pos h]
    rfl
  · have edge : ∀ E i R, l = E ++ i :: R → ∀ k, Edge1 ops k i → k ∈ E := fun E i R he k hk => by
      rcases h4 E i R he k hk with h | h
      · rw [hfalse] at h; cases h
      · exact h
    intro E i
    induction i using Nat.strongRecOn generalizing E with
    | ind i ih =>
      intro R he j hj
      obtain ⟨k, hk, hj⟩ := bef_edge hb hj
      have hkE := edge E i R he k hk
      rcases hj with rfl | hj
      · exact hkE
      · obtain ⟨E1, E2, rfl⟩ := List.append_of_mem hkE
        have := ih k (hb _ _ hk) E1 (E2 ++ i :: R) (by rw [he]; simp) j hj
        simp [this]

theorem canonGo_acc (P : Program) (ops : Array Oper) (b : Array Nat) : ∀ (n : Nat) (todo acc : List Nat), canonGo P ops b n todo acc = acc.reverse ++ canonGo P ops b n todo []
  | 0, _, _ => by simp [canonGo]
  | n + 1, todo, acc => by
    simp only [canonGo]
    split
    · rename_i i _
      rw [canonGo_acc P ops b n _ (i :: acc), canonGo_acc P ops b n _ [i]]
      simp
    · cases todo with
      | nil => simp
      | cons i rest =>
        simp only
        rw [canonGo_acc P ops b n _ (i :: acc), canonGo_acc P ops b n _ [i]]
        simp

theorem canonGo_spec (hb : ∀ i j, Edge1 ops j i → j < i) : ∀ (n : Nat) (todo : List Nat), todo.Pairwise (· < ·) → todo.length ≤ n →
    ∃ c, canonGo P ops (Region.before ops) n todo [] = c ∧ c.Nodup ∧ (∀ i, i ∈ c ↔ i ∈ todo) ∧ c.Pairwise fun i j => ¬ befB (Region.before ops) j i = true := by
  intro n
  induction n with
  | zero =>
    intro todo _ hl
    have : todo = [] := List.eq_nil_of_length_eq_zero (by omega)
    subst this
    exact ⟨[], rfl, .nil, by simp, .nil⟩
  | succ n ih =>
    intro todo hp hl
    simp only [canonGo]
    split
    · rename_i i hi
      have hmem := List.mem_of_find?_eq_some hi
      have hpr := List.find?_some hi
      simp only [Bool.and_eq_true] at hpr
      have hlast := List.all_eq_true.1 hpr.2
      obtain ⟨c, q1, q2, q3, q4⟩ := ih (todo.filter (· != i)) (hp.filter _) (by
        have := List.length_filter_lt_length_iff_exists (p := (· != i)) |>.2 ⟨i, hmem, by simp⟩
        omega)
      rw [canonGo_acc, q1]
      refine ⟨i :: c, by simp, List.nodup_cons.2 ⟨fun h => ?_, q2⟩, ?_, List.pairwise_cons.2 ⟨fun j hj => ?_, q4⟩⟩
      · have := (q3 i).1 h
        simp at this
      · intro k
        rw [List.mem_cons, q3, List.mem_filter]
        by_cases e : k = i
        · subst e; simp [hmem]
        · simp [e]
      · have := hlast j (List.mem_filter.1 ((q3 j).1 hj)).1
        simpa using this
    · cases todo with
      | nil => exact ⟨[], rfl, .nil, by simp, .nil⟩
      | cons i rest =>
        simp only
        rw [List.pairwise_cons] at hp
        obtain ⟨c, q1, q2, q3, q4⟩ := ih rest hp.2 (by simp at hl; omega)
        rw [canonGo_acc, q1]
        refine ⟨i :: c, by simp, List.nodup_cons.2 ⟨fun h => ?_, q2⟩, ?_, List.pairwise_cons.2 ⟨fun j hj h => ?_, q4⟩⟩
        · exact Nat.lt_irrefl _ (hp.1 _ ((q3 i).1 h))
        · intro k; rw [List.mem_cons, List.mem_cons, q3]
        · exact Nat.lt_irrefl _ (Nat.lt_trans (hp.1 j ((q3 j).1 hj)) (bef_back hb i j h))

theorem canonV_spec (hb : ∀ i j, Edge1 ops j i → j < i) : (canonV P ops).Nodup ∧ (∀ i, i ∈ canonV P ops ↔ i < ops.size) ∧ (canonV P ops).Pairwise fun i j => ¬ befB (Region.before ops) j i = true := by
  obtain ⟨c, q1, q2, q3, q4⟩ := canonGo_spec (P := P) hb ops.size (List.range ops.size) List.pairwise_lt_range (by simp)
  have : canonV P ops = c := q1
  rw [this]
  exact ⟨q2, fun i => by rw [q3, List.mem_range], q4⟩

theorem writerOf_go {t : Tmp} : ∀ (l : List Oper) (i : Nat), (∀ j, writerOf.go l t i = some j → i ≤ j ∧ ∃ o, l[j - i]? = some o ∧ o.dst = some t) ∧ (writerOf.go l t i = none → ∀ o ∈ l, o.dst ≠ some t)
  | [], i => by simp [writerOf.go]
  | o :: l, i => by
    obtain ⟨h1, h2⟩ := writerOf_go (t := t) l (i + 1)
    have hrec : (∀ j, writerOf.go l t (i + 1) = some j → i ≤ j ∧ ∃ o', (o :: l)[j - i]? = some o' ∧ o'.dst = some t) := fun j hj => by
      obtain ⟨q1, o', q2, q3⟩ := h1 j hj
      refine ⟨by omega, o', ?_, q3⟩
      rw [show j - i = (j - (i + 1)) + 1 by omega]
      simpa using q2
    simp only [writerOf.go]
    cases hd : o.dst with
    | none => exact ⟨hrec, fun h o' ho' => by
        rcases List.mem_cons.1 ho' with rfl | ho'
        · simp [hd]
        · exact h2 h o' ho'⟩
    | some d =>
      simp only
      cases hb : Nat.beq d t with
      | true =>
        have : d = t := Nat.eq_of_beq_eq_true hb
        subst this
        exact ⟨fun j hj => by simp only [Option.some.injEq] at hj; subst hj; exact ⟨Nat.le_refl _, o, by simp, hd⟩, fun h => by simp at h⟩
      | false => exact ⟨hrec, fun h o' ho' => by
          rcases List.mem_cons.1 ho' with rfl | ho'
          · rw [hd]
            rintro e
            simp only [Option.some.injEq] at e
            subst e
            simp at hb
          · exact h2 h o' ho'⟩

theorem writerOf_some {t : Tmp} {j : Nat} (h : writerOf ops.toList t 0 = some j) : ∃ o, ops[j]? = some o ∧ o.dst = some t := by
  obtain ⟨_, o, h1, h2⟩ := (writerOf_go ops.toList 0).1 j h
  exact ⟨o, by simpa using h1, h2⟩

theorem writerOf_none {t : Tmp} (h : writerOf ops.toList t 0 = none) (j : Nat) (o : Oper) (ho : ops[j]? = some o) : o.dst ≠ some t :=
  (writerOf_go ops.toList 0).2 h o (by rw [Array.mem_toList_iff]; exact Array.mem_of_getElem? ho)

end Go.Vm
