/-
  What is proved here: a logic over the virtual states. No condition.
-/
import Derived.Test.YtgdpedfahfmjeaaDoorMe
import Derived.IntWalk

/-
  A logic over the virtual states (1): what a piece of code comes to, as a property of its outcomes. Nothing of any one program.
-/
namespace Go.Vm
variable {P : Program} {ρ ρ' : Ren} {S : St} {w : World}

abbrev ExQ := Ex → Fr → St → Prop
abbrev EnQ := En → Option (List VPan) → St → Prop

/-- an outcome that a property allows is the machine's -/
def CodeIsQ (P : Program) (G : Nat) (Q : ExQ) (ρ : Ren) (S : St) (w : World) (b : Frame) (C : Callers) (m : Machine) (k : List Item) : Prop :=
  ∃ x fr' S', Q x fr' S' ∧ ∃ ρ' w' p' a', Goes G ρ S w ρ' S' w' ∧ RcRel ρ' b.kind C fr'.rc p' ∧ ARel ρ' fr' a' ∧ Reach P m b k (C.at p') ρ' x a' w'

theorem CodeIs.toQ {G : Nat} {L : CodeR} {Q : ExQ} {b : Frame} {C : Callers} {m : Machine} {k : List Item} (h : CodeIs P G L ρ S w b C m k) (hq : ∀ y ∈ L, Q y.1 y.2.1 y.2.2) : CodeIsQ P G Q ρ S w b C m k := by
  obtain ⟨x, fr', S', h1, h2⟩ := h
  exact ⟨x, fr', S', hq _ h1, h2⟩

theorem CodeIsQ.of_steps {G : Nat} {Q : ExQ} {b : Frame} {C : Callers} {m m1 : Machine} {k : List Item} (h : Steps P m m1) (hc : CodeIsQ P G Q ρ S w b C m1 k) : CodeIsQ P G Q ρ S w b C m k := by
  obtain ⟨x, fr', S', h1, ρ', w', p', a', h2, h3, h4, h5⟩ := hc
  exact ⟨x, fr', S', h1, ρ', w', p', a', h2, h3, h4, h5.of_steps h⟩

theorem CodeIsQ.of_goes {G : Nat} {Q : ExQ} {b : Frame} {C : Callers} {m : Machine} {k : List Item} {ρ1 : Ren} {S1 : St} {w1 : World} (h : Goes G ρ S w ρ1 S1 w1) (hc : CodeIsQ P G Q ρ1 S1 w1 b C m k) : CodeIsQ P G Q ρ S w b C m k := by
  obtain ⟨x, fr', S', h1, ρ', w', p', a', h2, h3, h4, h5⟩ := hc
  exact ⟨x, fr', S', h1, ρ', w', p', a', h.trans h2, h3, h4, h5⟩

theorem CodeIsQ.here {G : Nat} {Q : ExQ} {x : Ex} {fr : Fr} {b : Frame} {C : Callers} {p : Option (List PanicEntry)} {a : Act} {m : Machine} {k : List Item}
    (hm : Q x fr S) (hS : Sim G ρ S w) (hrc : RcRel ρ b.kind C fr.rc p) (ha : ARel ρ fr a) (hr : Reach P m b k (C.at p) ρ x a w) : CodeIsQ P G Q ρ S w b C m k :=
  ⟨x, fr, S, hm, ρ, w, p, a, .refl hS, hrc, ha, hr⟩

theorem CodeIsQ.bind {G : Nat} {Q1 Q : ExQ} {b : Frame} {C : Callers} {m : Machine} {k1 k : List Item}
    (h : CodeIsQ P G Q1 ρ S w b C m k1)
    (next : ∀ x fr' S' ρ' w' p' a', Q1 x fr' S' → Goes G ρ S w ρ' S' w' → RcRel ρ' b.kind C fr'.rc p' → ARel ρ' fr' a' → Reach P m b k1 (C.at p') ρ' x a' w' → CodeIsQ P G Q ρ' S' w' b C m k) :
    CodeIsQ P G Q ρ S w b C m k := by
  obtain ⟨x, fr', S', h1, ρ', w', p', a', h2, h3, h4, h5⟩ := h
  exact .of_goes h2 (next x fr' S' ρ' w' p' a' h1 h2 h3 h4 h5)

/-- a piece of code -/
def CodeT (P : Program) (fi : FI) (c : Code) (fr : Fr) (S : St) (Q : ExQ) : Prop :=
  ∀ ρ w (b : Frame) C p (a : Act) k, Sim P.globals.size ρ S w → Ctx ρ fi b → RcRel ρ b.kind C fr.rc p → ARel ρ fr a →
    CodeIsQ P P.globals.size Q ρ S w b C (lone (b.atR a (.code c :: k)) (C.at p) w) k

/-- the operations of a region, from one on -/
def OpersT (P : Program) (fi : FI) (ops : Array Oper) (i : Nat) (fr : Fr) (S : St) (Q : ExQ) : Prop :=
  ∀ ρ w (b : Frame) C p (a : Act) k, Sim P.globals.size ρ S w → Ctx ρ fi b → RcRel ρ b.kind C fr.rc p → ARel ρ fr a →
    CodeIsQ P P.globals.size Q ρ S w b C (lone (b.atR a (.inRegion ops (List.range' i (ops.size - i)) :: k)) (C.at p) w) k

/-- a function's frame -/
def CallT (P : Program) (f : FuncId) (args : List VV) (rc : Option (List VPan)) (S : St) (R : EnQ) : Prop :=
  ∀ ρ w (kind : CallKind) C p (args' : Array Value), Sim P.globals.size ρ S w → RcRel ρ kind C rc p → VRels ρ args args'.toList → (kind = .normal ∨ kind = .deferred) →
    ∃ e rc' S', R e rc' S' ∧ ∃ ρ' w' p' fr, Goes P.globals.size ρ S w ρ' S' w' ∧ RcRel ρ' kind C rc' p' ∧ Steps P (lone (Frame.enter P f args' kind) (C.at p) w) (lone fr (C.at p') w') ∧ Left P ρ' f kind fr w' e

theorem CodeT.mono {fi : FI} {c : Code} {fr : Fr} {Q Q' : ExQ} (h : CodeT P fi c fr S Q) (hq : ∀ x fr S, Q x fr S → Q' x fr S) : CodeT P fi c fr S Q' := by
  intro ρ w b C p a k hS hx hrc ha
  obtain ⟨x, fr', S', h1, h2⟩ := h ρ w b C p a k hS hx hrc ha
  exact ⟨x, fr', S', hq _ _ _ h1, h2⟩

theorem CallT.mono {f : FuncId} {args : List VV} {rc : Option (List VPan)} {R R' : EnQ} (h : CallT P f args rc S R) (hq : ∀ e rc S, R e rc S → R' e rc S) : CallT P f args rc S R' := by
  intro ρ w kind C p args' hS hrc ha hk
  obtain ⟨e, rc', S', h1, h2⟩ := h ρ w kind C p args' hS hrc ha hk
  exact ⟨e, rc', S', hq _ _ _ h1, h2⟩

theorem FunT.mono {f : FuncId} {args : List VV} {R R' : En → St → Prop} (h : FunT P f args S R) (hq : ∀ e S, R e S → R' e S) : FunT P f args S R' := by
  intro ρ w args' hS ha s hs c cs hc
  obtain ⟨e, S', h1, h2⟩ := h ρ w args' hS ha s hs c cs hc
  exact ⟨e, S', hq _ _ h1, h2⟩

/-- what is no more looked at is forgotten -/
structure Within (S' S : St) : Prop where
  h : ∀ id o, S'.h.get id = some o → S.h.get id = some o
  nx : S.nx ≤ S'.nx

theorem Within.refl (S : St) : Within S S := ⟨fun _ _ h => h, Nat.le_refl _⟩

theorem Sim.within {G : Nat} {S' : St} (h : Sim G ρ S w) (hw : Within S' S) : Sim G ρ S' w :=
  ⟨fun id o q => h.obj id o (hw.h id o q), fun i j oi oj r b n b' n' q1 q2 => h.inj i j oi oj r b n b' n' (hw.h _ _ q1) (hw.h _ _ q2), fun id q => h.fresh id (Nat.le_trans hw.nx q), h.low, h.glob⟩

theorem Goes.within {G : Nat} {S1 S' : St} {w1 : World} (h : Goes G ρ S w ρ' S1 w1) (hw : Within S' S1) : Goes G ρ S w ρ' S' w1 where
  ext := h.ext
  sim := h.sim.within hw
  size := h.size
  output := h.output
  os := h.os
  keep := h.keep
  wl r hr := fun ⟨id, o, b, n, q1, q2, q3⟩ => h.wl r hr ⟨id, o, b, n, hw.h _ _ q1, q2, q3⟩
  dom r hr := fun ⟨id, o, b, n, q1, q3⟩ => h.dom r hr ⟨id, o, b, n, hw.h _ _ q1, q3⟩

theorem CallT.within {f : FuncId} {args : List VV} {rc : Option (List VPan)} {R R' : EnQ} (h : CallT P f args rc S R) (hq : ∀ e rc S, R e rc S → ∃ S', Within S' S ∧ R' e rc S') : CallT P f args rc S R' := by
  intro ρ w kind C p args' hS hrc ha hk
  obtain ⟨e, rc', S', h1, ρ', w', p', fr, h2, h3, h4, h5⟩ := h ρ w kind C p args' hS hrc ha hk
  obtain ⟨S1, h6, h7⟩ := hq _ _ _ h1
  refine ⟨e, rc', S1, h7, ρ', w', p', fr, h2.within h6, h3, h4, h5⟩

theorem CodeT.within {fi : FI} {c : Code} {fr : Fr} {Q Q' : ExQ} (h : CodeT P fi c fr S Q) (hq : ∀ x fr S, Q x fr S → ∃ S', Within S' S ∧ Q' x fr S') : CodeT P fi c fr S Q' := by
  intro ρ w b C p a k hS hx hrc ha
  obtain ⟨x, fr', S', h1, ρ', w', p', a', h2, h3, h4, h5⟩ := h ρ w b C p a k hS hx hrc ha
  obtain ⟨S1, h6, h7⟩ := hq _ _ _ h1
  exact ⟨x, fr', S1, h7, ρ', w', p', a', h2.within h6, h3, h4, h5⟩

/- functions -/
theorem FunT.of_call (hn : NoCount P) {f : FuncId} {fn : Func} (hf : P.funcs[f]? = some fn) (hb : fn.body.isSome = true) {args : List VV} {R : En → St → Prop} (h : CallT P f args none S fun e _ S => R e S) : FunT P f args S R := by
  intro ρ w args' hS ha s hs c cs hc
  have hent := callFunc_enter hn hf hb args' w
  obtain ⟨e, rc', S', h1, ρ', w', p', fr, h2, h3, h4, h5⟩ := h ρ w .normal (.fixed (c :: cs)) none args' hS (.normal _) ha (.inl rfl)
  cases h3
  refine ⟨e, S', h1, ρ', w', h2, ?_⟩
  have hl := step_left (c := c) (cs := cs) h5
  cases e with
  | returned v =>
    obtain ⟨v', q1, q2⟩ := hl
    exact ⟨v', q1, _, _, _, apply_enter hc (by rw [hs, hent]), h4.trans (.one q2)⟩
  | panicked ch =>
    obtain ⟨ch', q1, q2⟩ := hl
    exact ⟨ch', q1, _, _, _, apply_enter hc (by rw [hs, hent]), h4.trans (.one q2)⟩

theorem FunT.of_ov {ov : Ov} (ho : OvSound P ov) {f : FuncId} {g : List VV → St → Option (En × St)} (hg : ov f = some g) {args : List VV} {e : En} {S1 : St} (h : g args S = some (e, S1)) {R : En → St → Prop} (hR : R e S1) : FunT P f args S R :=
  (ho f g args S e S1 hg h).mono fun _ _ ⟨h1, h2⟩ => by subst h1; subst h2; exact hR

theorem CallT.of_ev (hmix : P.follows .mixedOrders = true) (hn : NoCount P) {ov : Ov} (ho : OvSound P ov) {n : Nat} {f : FuncId} {args : List VV} {rc : Option (List VPan)} {L : CallR} (h : (ev P ov n).call f args rc S = some L) {R : EnQ} (hR : ∀ y ∈ L, R y.1 y.2.1 y.2.2) : CallT P f args rc S R := by
  intro ρ w kind C p args' hS hrc ha hk
  obtain ⟨e, rc', S', h1, h2⟩ := (ev_sound hmix hn ho n).rec_.call f args rc S L h ρ w kind C p args' hS hrc ha hk
  exact ⟨e, rc', S', hR _ h1, h2⟩

theorem CodeT.of_ev (hmix : P.follows .mixedOrders = true) (hn : NoCount P) {ov : Ov} (ho : OvSound P ov) {n : Nat} {fi : FI} {c : Code} {fr : Fr} {L : CodeR} (h : (ev P ov n).code fi c fr S = some L) {Q : ExQ} (hQ : ∀ y ∈ L, Q y.1 y.2.1 y.2.2) : CodeT P fi c fr S Q := by
  intro ρ w b C p a k hS hx hrc ha
  exact ((ev_sound hmix hn ho n).rec_.code fi c fr S L h ρ w b C p a k hS hx hrc ha).toQ hQ

theorem CallT.calls {f : FuncId} {args : List VV} {R : EnQ} (h : CallT P f args none S R) (hS : Sim P.globals.size ρ S w) {args' : Array Value} (ha : VRels ρ args args'.toList) :
    Calls P f args' w fun e w' => ∃ en rc S' ρ', R en rc S' ∧ Goes P.globals.size ρ S w ρ' S' w' ∧ EndRel ρ' en e := by
  intro cs
  obtain ⟨en, rc, S', h1, ρ', w', p', fr, h2, h3, h4, h5⟩ := h ρ w .normal (.fixed cs) none args' hS (.normal _) ha (.inl rfl)
  cases en with
  | returned v =>
    obtain ⟨m1, m2, m3, m4, fn, v', m5, m6, m7⟩ := h5
    exact ⟨.returned v', w', fr, ⟨_, rc, S', ρ', h1, h2, m7⟩, h4, m4, m1, m2, m3, fn, by rw [m4]; exact m5, m6⟩
  | panicked ch =>
    obtain ⟨m1, m2, m3, ⟨fn, m5⟩, ch', m6, m7⟩ := h5
    exact ⟨.panicked ch', w', fr, ⟨_, rc, S', ρ', h1, h2, m7⟩, h4, m3, m6, m1, fn, by rw [m3]; exact m5⟩

/- operations -/
theorem OpersT.nil {fi : FI} {ops : Array Oper} {i : Nat} {fr : Fr} {Q : ExQ} (hi : ops.size ≤ i) (h : Q .normal fr S) : OpersT P fi ops i fr S Q := by
  intro ρ w b C p a k hS _ hrc ha
  rw [Nat.sub_eq_zero_of_le hi]
  exact .here h hS hrc ha (Steps.one stepR_region_end)

theorem range_at {ops : Array Oper} {i : Nat} {o : Oper} (ho : ops[i]? = some o) : List.range' i (ops.size - i) = i :: List.range' (i + 1) (ops.size - (i + 1)) := by
  have hi : i < ops.size := by
    rcases Nat.lt_or_ge i ops.size with h | h
    · exact h
    · rw [Array.getElem?_eq_none h] at ho; cases ho
  rw [show ops.size - i = (ops.size - (i + 1)) + 1 by omega, List.range'_succ]

/-- an operation that goes to one outcome or that panics: one step of the evaluator -/
theorem OpersT.skip {fi : FI} {ops : Array Oper} {i : Nat} {o : Oper} {fr fr1 : Fr} {Q : ExQ} (ho : ops[i]? = some o) (hw : wantedV ops o (fun d => fr.t.get d) = some false) (hp : fr.put o.dst undefV = some fr1)
    (h : OpersT P fi ops (i + 1) fr1 S Q) : OpersT P fi ops i fr S Q := by
  intro ρ w b C p a k hS hx hrc ha
  have hwr := wanted_rel (tmps := a.tmps) (fun t v ht => ha.1.2 t v ht) hw
  rw [range_at ho]
  obtain ⟨ha1, hrc1⟩ := put_rel hp ha (undef_rel ρ)
  have hstep := stepR_op_skip (P := P) (b := b) (a := a) (k := k) (cs := C.at p) (w := w) (ops := ops) (i := i) (rest := List.range' (i + 1) (ops.size - (i + 1))) (by simp [ho, hwr])
  simp only [ho, Option.bind_some] at hstep
  exact .of_steps (.one hstep) (h ρ w b C p _ k hS hx (by rw [hrc1]; exact hrc) ha1)

theorem OpersT.simple {fi : FI} {ops : Array Oper} {i : Nat} {o : Oper} {fr fr1 : Fr} {v : VV} {S1 : St} {Q : ExQ} (ho : ops[i]? = some o) (hw : wantedV ops o (fun d => fr.t.get d) = some true)
    (hs : simpleV P (fr.ev P.globals.size) S o.op = some (v, S1)) (hnd : ∀ c, o.op ≠ .defer c) (hp : fr.put o.dst v = some fr1) (h : OpersT P fi ops (i + 1) fr1 S1 Q) : OpersT P fi ops i fr S Q := by
  intro ρ w b C p a k hS hx hrc ha
  have hwr := wanted_rel (tmps := a.tmps) (fun t v ht => ha.1.2 t v ht) hw
  rw [range_at ho]
  obtain ⟨ρ1, w1, ⟨v', hrun, hv⟩, hg, _⟩ := simpleV_sound (P := P) hS (ha.ev hS) hs
  obtain ⟨ha1, hrc1⟩ := put_rel hp (ha.mono hg.ext) hv
  refine .of_goes hg (.of_steps ?_ (h ρ1 w1 b C p (a.put o.dst v') k hg.sim (hx.mono hg.ext) (by rw [hrc1]; exact hrc.mono hg.ext) ha1))
  refine steps_op ho hwr ?_
  rw [Oper.semAt_eq _ _ _ hnd, ← finish_op (b := b) (k := k) ho v']
  rcases hrun with hrun | ⟨hrun, rfl⟩
  · exact ⟨_, _, _, apply_value hrun, .refl _ _⟩
  · exact ⟨_, _, _, apply_skip hrun, .refl _ _⟩

theorem OpersT.call {fi : FI} {ops : Array Oper} {i : Nat} {o : Oper} {c : Call} {fr : Fr} {f : FuncId} {args : List VV} {Q : ExQ} (ho : ops[i]? = some o) (hw : wantedV ops o (fun d => fr.t.get d) = some true)
    (hop : o.op = .call c) (hc : calleeV (fr.ev P.globals.size) c = some (.func f, args))
    (h : FunT P f args S fun e S1 => match e with
      | .returned v => ∃ fr1, fr.put o.dst v = some fr1 ∧ OpersT P fi ops (i + 1) fr1 S1 Q
      | .panicked ch => Q (.panic ch) fr S1) : OpersT P fi ops i fr S Q := by
  intro ρ w b C p a k hS hx hrc ha
  have hwr := wanted_rel (tmps := a.tmps) (fun t v ht => ha.1.2 t v ht) hw
  have hnd : ∀ d, o.op ≠ .defer d := by simp [hop]
  rw [range_at ho]
  obtain ⟨fn', first, captured, q1, q2, q3, _, q5⟩ := callee_rel (P := P) (ha.ev hS) hop hc
  cases q1
  obtain ⟨e, S1, h1, ρ1, w1, hg, hgo⟩ := h ρ w _ hS q2 (execOp a.eval o) (by rw [q3 w]; rfl) (b.atR a (.inRegion ops (i :: List.range' (i + 1) (ops.size - (i + 1))) :: k)) (C.at p) (plain_op _ _ _ _ _)
  cases e with
  | returned v =>
    obtain ⟨fr1, hp, h1⟩ := h1
    obtain ⟨v', hv, happ⟩ := hgo
    obtain ⟨ha1, hrc1⟩ := put_rel hp (ha.mono hg.ext) hv
    refine .of_goes hg (.of_steps ?_ (h1 ρ1 w1 b C p (a.put o.dst v') k hg.sim (hx.mono hg.ext) (by rw [hrc1]; exact hrc.mono hg.ext) ha1))
    refine steps_op ho hwr ?_
    rw [Oper.semAt_eq _ _ _ hnd, ← finish_op (b := b) (k := k) ho v']
    exact happ
  | panicked ch =>
    obtain ⟨ch', hch, happ⟩ := hgo
    refine ⟨.panic ch, fr, S1, h1, ρ1, w1, p, a, hg, hrc.mono hg.ext, ha.mono hg.ext, .inRegion ops (i :: List.range' (i + 1) (ops.size - (i + 1))) :: k, ch', hch, ?_⟩
    refine steps_op ho hwr ?_
    rw [Oper.semAt_eq _ _ _ hnd]
    exact happ

theorem OpersT.next {fi : FI} {ops : Array Oper} {i : Nat} {o : Oper} {it : Operand} {s : Bool} {fr : Fr} {l : List (VV × St)} {Q : ExQ} (ho : ops[i]? = some o) (hw : wantedV ops o (fun d => fr.t.get d) = some true)
    (hop : o.op = .next it s) (hl : nextV S (fr.ev P.globals.size it) s = some l)
    (h : ∀ v S1, (v, S1) ∈ l → ∃ fr1, fr.put o.dst v = some fr1 ∧ OpersT P fi ops (i + 1) fr1 S1 Q) : OpersT P fi ops i fr S Q := by
  intro ρ w b C p a k hS hx hrc ha
  have hwr := wanted_rel (tmps := a.tmps) (fun t v ht => ha.1.2 t v ht) hw
  have hnd : ∀ d, o.op ≠ .defer d := by simp [hop]
  rw [range_at ho]
  obtain ⟨v, S1, hm, v', w1, h1, h2, hg⟩ := r_next (P := P) hS o.type hl (ha.ev hS it)
  obtain ⟨fr1, hp, h3⟩ := h v S1 hm
  obtain ⟨ha1, hrc1⟩ := put_rel hp ha h2
  refine .of_goes hg (.of_steps ?_ (h3 ρ w1 b C p (a.put o.dst v') k hg.sim hx (by rw [hrc1]; exact hrc) ha1))
  refine steps_op ho hwr ?_
  rw [Oper.semAt_eq _ _ _ hnd, ← finish_op (b := b) (k := k) ho v']
  exact ⟨_, _, _, apply_value (by simp only [execOp, hop, Sem.run_bind, h1, Result.andThen_ok, Sem.run_pure]), .refl _ _⟩

theorem OpersT.panic {fi : FI} {ops : Array Oper} {i : Nat} {o : Oper} {x : Operand} {ch : List VPan} {fr : Fr} {Q : ExQ} (ho : ops[i]? = some o) (hw : wantedV ops o (fun d => fr.t.get d) = some true)
    (hop : o.op = .panic x) (hp : panicV (fr.ev P.globals.size x) = some ch) (h : Q (.panic ch) fr S) : OpersT P fi ops i fr S Q := by
  intro ρ w b C p a k hS hx hrc ha
  have hwr := wanted_rel (tmps := a.tmps) (fun t v ht => ha.1.2 t v ht) hw
  have hnd : ∀ d, o.op ≠ .defer d := by simp [hop]
  rw [range_at ho]
  obtain ⟨v, h1, h2⟩ := panic_rel (P := P) (ha.ev hS) hop hp
  refine ⟨.panic ch, fr, S, h, ρ, w, p, a, .refl hS, hrc, ha, .inRegion ops (i :: List.range' (i + 1) (ops.size - (i + 1))) :: k, _, h1, ?_⟩
  refine steps_op ho hwr ?_
  rw [Oper.semAt_eq _ _ _ hnd]
  exact ⟨_, _, _, apply_panic (h2 w), .refl _ _⟩

theorem OpersT.defer {fi : FI} {ops : Array Oper} {i : Nat} {o : Oper} {c : Call} {d : VDef} {fr fr1 : Fr} {Q : ExQ} (ho : ops[i]? = some o) (hw : wantedV ops o (fun d => fr.t.get d) = some true)
    (hop : o.op = .defer c) (hr : fi.round = none) (hd : deferV (fr.ev P.globals.size) c = some d) (hp : ({ fr with ds := d :: fr.ds } : Fr).put o.dst undefV = some fr1) (h : OpersT P fi ops (i + 1) fr1 S Q) : OpersT P fi ops i fr S Q := by
  intro ρ w b C p a k hS hx hrc ha
  have hwr := wanted_rel (tmps := a.tmps) (fun t v ht => ha.1.2 t v ht) hw
  have hro : b.roundOf = none := by have := hx.round; simpa [hr] using this
  rw [range_at ho]
  obtain ⟨d', h1, h2⟩ := defer_rel (P := P) (ha.ev hS) hop hd
  obtain ⟨ha1, hrc1⟩ := put_rel (fr := { fr with ds := d :: fr.ds }) (a := { a with defers := d' :: a.defers }) hp ⟨ha.1, .cons h1 ha.2⟩ (undef_rel ρ)
  refine .of_steps ?_ (h ρ w b C p (({ a with defers := d' :: a.defers } : Act).put o.dst undef) k hS hx (by rw [hrc1]; exact hrc) ha1)
  refine steps_op ho hwr ?_
  have hsem : o.semAt b.roundOf a.eval = execOp a.eval o := by rw [hro]; rfl
  rw [hsem]
  refine ⟨_, _, _, apply_defer (h2 w), ?_⟩
  rw [← finish_op (b := b) (a := { a with defers := d' :: a.defers }) (k := k) ho undef]
  exact .refl _ _

/- code -/
theorem CodeT.region {fi : FI} {id : Nat} {ops : Array Oper} {fr : Fr} {Q : ExQ} (h : OpersT P fi ops 0 fr S Q) : CodeT P fi (.region id ops false) fr S Q := by
  intro ρ w b C p a k hS hx hrc ha
  refine .of_steps (.one stepR_region) ?_
  have := h ρ w b C p a k hS hx hrc ha
  rw [List.range_eq_range']
  simpa using this

theorem CodeT.skip {fi : FI} {fr : Fr} {Q : ExQ} (h : Q .normal fr S) : CodeT P fi .skip fr S Q := by
  intro ρ w b C p a k hS hx hrc ha
  exact .here h hS hrc ha (Steps.one stepR_skip)

theorem CodeT.exit {fi : FI} {id : Nat} {fr : Fr} {Q : ExQ} (h : Q (.exit id) fr S) : CodeT P fi (.exit id) fr S Q := by
  intro ρ w b C p a k hS hx hrc ha
  exact .here h hS hrc ha ⟨k, rfl, .refl _ _⟩

theorem CodeT.ret {fi : FI} {fr : Fr} {Q : ExQ} (h : Q .ret fr S) : CodeT P fi .ret fr S Q := by
  intro ρ w b C p a k hS hx hrc ha
  exact .here h hS hrc ha ⟨k, .refl _ _⟩

theorem CodeT.seq {fi : FI} {x y : Code} {fr : Fr} {Q : ExQ} (h : CodeT P fi x fr S fun e fr S => match e with
    | .normal => CodeT P fi y fr S Q
    | e => Q e fr S) : CodeT P fi (.seq x y) fr S Q := by
  intro ρ w b C p a k hS hx hrc ha
  refine .of_steps (.one stepR_seq) ?_
  refine .bind (h ρ w b C p a (.code y :: k) hS hx hrc ha) ?_
  intro x1 fr1 S1 ρ1 w1 p1 a1 hq hg hrc1 ha1 hreach
  cases x1 with
  | normal => exact .of_steps hreach (hq ρ1 w1 b C p1 a1 k hg.sim (hx.mono hg.ext) hrc1 ha1)
  | _ => exact .here hq hg.sim hrc1 ha1 (hreach.out (by simp) (by intros; rfl))

theorem CodeT.cond {fi : FI} {x : Operand} {t : Bool} {y z : Code} {fr : Fr} {Q : ExQ} (hv : fr.ev P.globals.size x = .bool t) (h : CodeT P fi (bif t then y else z) fr S Q) : CodeT P fi (.cond x y z) fr S Q := by
  intro ρ w b C p a k hS hx hrc ha
  have hv' := ha.ev hS x
  rw [hv] at hv'
  have hb : a.eval x = .bool t := by generalize a.eval x = q at hv'; cases hv'; rfl
  refine .of_steps (.one (stepR_cond hb)) ?_
  cases t with
  | true => exact h ρ w b C p a k hS hx hrc ha
  | false => exact h ρ w b C p a k hS hx hrc ha

theorem CodeT.block {fi : FI} {id : Nat} {x : Code} {fr : Fr} {Q : ExQ} (h : CodeT P fi x fr S fun e fr S => match e with
    | .exit i => bif Nat.beq i id then Q .normal fr S else Q (.exit i) fr S
    | e => Q e fr S) : CodeT P fi (.block id x) fr S Q := by
  intro ρ w b C p a k hS hx hrc ha
  refine .of_steps (.one stepR_block) ?_
  refine .bind (h ρ w b C p a (.inBlock id :: k) hS hx hrc ha) ?_
  intro x1 fr1 S1 ρ1 w1 p1 a1 hq hg hrc1 ha1 hreach
  cases x1 with
  | normal => exact .here hq hg.sim hrc1 ha1 (Steps.trans hreach (.one stepR_inBlock))
  | exit i =>
    simp only at hq
    cases hi : Nat.beq i id with
    | true =>
      have hi' : i = id := Nat.eq_of_beq_eq_true hi
      subst hi'
      rw [hi] at hq
      obtain ⟨k', h1, h2⟩ := hreach
      exact .here hq hg.sim hrc1 ha1 (Steps.trans h2 (.one (stepR_exit (by rw [h1]; simp [exitTo]))))
    | false =>
      rw [hi] at hq
      refine .here hq hg.sim hrc1 ha1 (hreach.out (by simp) ?_)
      rintro j hj
      cases hj
      have hi' : ¬ id = i := fun e => by subst e; simp at hi
      simp [exitTo, hi']
  | _ => exact .here hq hg.sim hrc1 ha1 (hreach.out (by simp) (by simp))

theorem CodeIsQ.loop {G : Nat} {Q : ExQ} {b : Frame} {C : Callers} {a : Act} {c : Code} {k : List Item} {cs : List Frame} {w0 : World} (h : CodeIsQ P G Q ρ S w b C (lone (b.atR a (.code (.loop c) :: k)) cs w0) k) :
    CodeIsQ P G Q ρ S w b C (lone (b.atR a (.inLoop c :: k)) cs w0) k := by
  obtain ⟨x, fr', S', h1, ρ', w', p', a', h2, h3, h4, h5⟩ := h
  exact ⟨x, fr', S', h1, ρ', w', p', a', h2, h3, h4, reach_loop h5⟩

theorem CodeT.loop {fi : FI} {x : Code} {fr : Fr} {Q : ExQ} (h : CodeT P fi x fr S fun e fr S => match e with
    | .normal => CodeT P fi (.loop x) fr S Q
    | e => Q e fr S) : CodeT P fi (.loop x) fr S Q := by
  intro ρ w b C p a k hS hx hrc ha
  refine .of_steps (.one stepR_loop) ?_
  refine .bind (h ρ w b C p a (.inLoop x :: k) hS hx hrc ha) ?_
  intro x1 fr1 S1 ρ1 w1 p1 a1 hq hg hrc1 ha1 hreach
  cases x1 with
  | normal => exact .of_steps hreach (CodeIsQ.loop (hq ρ1 w1 b C p1 a1 k hg.sim (hx.mono hg.ext) hrc1 ha1))
  | _ => exact .here hq hg.sim hrc1 ha1 (hreach.out (by simp) (by intros; rfl))

/-- round and round: something falls -/
theorem CodeT.loop_falls {fi : FI} {x : Code} {Q : ExQ} (I : Nat → Fr → St → Prop)
    (h : ∀ n fr S, I n fr S → CodeT P fi x fr S fun e fr S => match e with
      | .normal => ∃ m, m < n ∧ I m fr S
      | e => Q e fr S) : ∀ n fr S, I n fr S → CodeT P fi (.loop x) fr S Q := by
  intro n
  induction n using Nat.strongRecOn with
  | ind n ih =>
    intro fr S hi
    refine .loop ((h n fr S hi).mono ?_)
    intro e fr' S' hq
    cases e with
    | normal => obtain ⟨m, hm, hI⟩ := hq; exact ih m hm fr' S' hI
    | _ => exact hq

/-- slots that are no more looked at are forgotten -/
structure FrIn (fr' fr : Fr) : Prop where
  t : ∀ i v, fr'.t.get i = some v → fr.t.get i = some v
  n : fr'.n = fr.n
  ds : fr'.ds = fr.ds
  rc : fr'.rc = fr.rc

theorem FrIn.refl (fr : Fr) : FrIn fr fr := ⟨fun _ _ h => h, rfl, rfl, rfl⟩

theorem Goes.of_within {G : Nat} {S' S1 : St} {w1 : World} (hw : Within S' S) (h : Goes G ρ S' w ρ' S1 w1) : Goes G ρ S w ρ' S1 w1 where
  ext := h.ext
  sim := h.sim
  size := h.size
  output := h.output
  os := h.os
  keep r hr hx := h.keep r hr fun ⟨id, o, b, n, q1, q2, q3⟩ => hx ⟨id, o, b, n, hw.h _ _ q1, q2, q3⟩
  wl r hr q := by obtain ⟨id, o, b, n, q1, q2, q3⟩ := h.wl r hr q; exact ⟨id, o, b, n, hw.h _ _ q1, q2, q3⟩
  dom r hr q := by obtain ⟨id, o, b, n, q1, q3⟩ := h.dom r hr q; exact ⟨id, o, b, n, hw.h _ _ q1, q3⟩

theorem CodeT.forget {fi : FI} {c : Code} {fr fr' : Fr} {S' : St} {Q : ExQ} (hf : FrIn fr' fr) (hw : Within S' S) (h : CodeT P fi c fr' S' Q) : CodeT P fi c fr S Q := by
  intro ρ w b C p a k hS hx hrc ha
  obtain ⟨x, fr1, S1, h1, ρ', w', p', a', h2, h3, h4, h5⟩ := h ρ w b C p a k (hS.within hw) hx (by rw [hf.rc]; exact hrc) ⟨⟨by rw [hf.n]; exact ha.1.1, fun i v hv => ha.1.2 i v (hf.t i v hv)⟩, by rw [hf.ds]; exact ha.2⟩
  exact ⟨x, fr1, S1, h1, ρ', w', p', a', .of_within hw h2, h3, h4, h5⟩

theorem CallT.forget {f : FuncId} {args : List VV} {rc : Option (List VPan)} {S' : St} {R : EnQ} (hw : Within S' S) (h : CallT P f args rc S' R) : CallT P f args rc S R := by
  intro ρ w kind C p args' hS hrc ha hk
  obtain ⟨e, rc', S1, h1, ρ', w', p', fr, h2, h3, h4, h5⟩ := h ρ w kind C p args' (hS.within hw) hrc ha hk
  exact ⟨e, rc', S1, h1, ρ', w', p', fr, .of_within hw h2, h3, h4, h5⟩

/-- behind a piece of code, what is no more looked at is forgotten -/
theorem CodeT.post {fi : FI} {c : Code} {fr : Fr} (Q : ExQ) {Q' : ExQ} (h : CodeT P fi c fr S fun x fr S => ∃ fr' S', FrIn fr' fr ∧ Within S' S ∧ Q x fr' S') (hq : ∀ x fr S, Q x fr S → Q' x fr S) : CodeT P fi c fr S Q' := by
  intro ρ w b C p a k hS hx hrc ha
  obtain ⟨x, fr1, S1, ⟨fr2, S2, q1, q2, q3⟩, ρ', w', p', a', h2, h3, h4, h5⟩ := h ρ w b C p a k hS hx hrc ha
  exact ⟨x, fr2, S2, hq _ _ _ q3, ρ', w', p', a', h2.within q2, by rw [q1.rc]; exact h3, ⟨⟨by rw [q1.n]; exact h4.1.1, fun i v hv => h4.1.2 i v (q1.t i v hv)⟩, by rw [q1.ds]; exact h4.2⟩, h5⟩

/-- all that lies there has a number below the next one -/
def Fresh (S : St) : Prop := ∀ id o, S.h.get id = some o → id < S.nx

theorem Sim.fresh_ {G : Nat} (h : Sim G ρ S w) : Fresh S := by
  intro id o q
  obtain ⟨r, b, n, o', h1, _⟩ := h.obj id o q
  rcases Nat.lt_or_ge id S.nx with hx | hx
  · exact hx
  · rw [h.fresh id hx] at h1; cases h1

theorem CodeT.of_fresh {fi : FI} {c : Code} {fr : Fr} {Q : ExQ} (h : Fresh S → CodeT P fi c fr S Q) : CodeT P fi c fr S Q :=
  fun ρ w b C p a k hS hx hrc ha => h hS.fresh_ ρ w b C p a k hS hx hrc ha
theorem CallT.of_fresh {f : FuncId} {args : List VV} {rc : Option (List VPan)} {R : EnQ} (h : Fresh S → CallT P f args rc S R) : CallT P f args rc S R :=
  fun ρ w kind C p args' hS hrc ha hk => h hS.fresh_ ρ w kind C p args' hS hrc ha hk

/-- round and round: something falls, and what is no more looked at is forgotten -/
theorem CodeT.loop_inv {fi : FI} {x : Code} {Q : ExQ} (I : Nat → Fr → St → Prop)
    (h : ∀ n fr S, I n fr S → CodeT P fi x fr S fun e fr S => match e with
      | .normal => ∃ m fr' S', m < n ∧ FrIn fr' fr ∧ Within S' S ∧ I m fr' S'
      | e => Q e fr S) : ∀ n fr S, I n fr S → CodeT P fi (.loop x) fr S Q := by
  intro n
  induction n using Nat.strongRecOn with
  | ind n ih =>
    intro fr S hi
    refine .loop ((h n fr S hi).mono ?_)
    intro e fr' S' hq
    cases e with
    | normal => obtain ⟨m, fr2, S2, hm, h1, h2, hI⟩ := hq; exact (ih m hm fr2 S2 hI).forget h1 h2
    | _ => exact hq

/- a function's frame -/
def UnwT (P : Program) (f : FuncId) (mode : Option (List VPan)) (fr : Fr) (S : St) (R : EnQ) : Prop :=
  ∀ ρ w C p (b : Frame) (a : Act) k md, Sim P.globals.size ρ S w → RcRel ρ b.kind C fr.rc p → ARel ρ fr a → ModeRel ρ mode md → b.fn = f → (b.kind = .normal ∨ b.kind = .deferred) → b.roundOf = none → (∃ fn, P.funcs[f]? = some fn) →
    ∃ e rc' S', R e rc' S' ∧ ∃ ρ' w' p' fr', Goes P.globals.size ρ S w ρ' S' w' ∧ RcRel ρ' b.kind C rc' p' ∧ Steps P (lone { b.atR a k with mode := md } (C.at p) w) (lone fr' (C.at p') w') ∧ Left P ρ' f b.kind fr' w' e

theorem CallT.func {f : FuncId} {fn : Func} {c : Code} {args : List VV} {rc : Option (List VPan)} {R : EnQ} (hf : P.funcs[f]? = some fn) (hb : fn.body = some c)
    (h : CodeT P { fn := f, round := none } c (frameV fn args rc) S fun x fr S => match x with
      | .normal => UnwT P f none fr S R
      | .ret => UnwT P f none fr S R
      | .panic ch => UnwT P f (some ch) fr S R
      | .exit _ => False) : CallT P f args rc S R := by
  intro ρ w kind C p args' hS hrc ha hk
  let b : Frame := { (default : Frame) with fn := f, kind := kind, roundOf := none }
  rw [show Frame.enter P f args' kind = b.atR { tmps := args' ++ Array.replicate (fn.ntmps - args'.size) undef, defers := [] } [.code c] by
    simp [Frame.enter, Frame.atR, hf, hb, b]]
  obtain ⟨x1, fr1, S1, hq, ρ1, w1, p1, a1, hg, hrc1, ha1, hre⟩ := h ρ w b C p _ [] hS ⟨rfl, rfl⟩ hrc (frame_rel ha)
  have fin : ∀ {md k m}, Steps P m (lone { b.atR a1 k with mode := md } (C.at p1) w1) → ∀ mode, UnwT P f mode fr1 S1 R → ModeRel ρ1 mode md →
      ∃ e rc' S', R e rc' S' ∧ ∃ ρ' w' p' fr', Goes P.globals.size ρ S w ρ' S' w' ∧ RcRel ρ' kind C rc' p' ∧ Steps P m (lone fr' (C.at p') w') ∧ Left P ρ' f kind fr' w' e := by
    intro md k m hst mode hu hm
    obtain ⟨e, rc', S', u1, ρ', w', p', fr', u2, u3, u4, u5⟩ := hu ρ1 w1 C p1 b a1 k md hg.sim hrc1 ha1 hm rfl hk rfl ⟨fn, hf⟩
    exact ⟨e, rc', S', u1, ρ', w', p', fr', hg.trans u2, u3, hst.trans u4, u5⟩
  cases x1 with
  | normal => exact fin (Steps.trans hre (.one (stepR_end rfl))) none hq rfl
  | ret =>
    obtain ⟨k', hre⟩ := hre
    exact fin (Steps.trans hre (.one (stepR_ret rfl))) none hq rfl
  | panic ch =>
    obtain ⟨k', ch', hch, hre⟩ := hre
    exact fin (md := .panicking ch') hre (some ch) hq ⟨ch', rfl, hch⟩
  | exit id => exact hq.elim

theorem UnwT.done {f : FuncId} {fn : Func} {fr : Fr} {vs : List VV} {R : EnQ} (hf : P.funcs[f]? = some fn) (hd : fr.ds = []) (hv : resultsV P fr.t S fn.results.toList = some vs) (h : R (.returned (oneOf vs)) fr.rc S) : UnwT P f none fr S R := by
  intro ρ w C p b a k md hS hrc ha hm hb hk hro hfn
  have hnil : a.defers = [] := by
    have := ha.2
    rw [hd] at this
    generalize a.defers = q at this
    cases this
    rfl
  cases hm
  obtain ⟨v', h1, h2⟩ := results_rel (P := P) hS ha.1 hv
  exact ⟨_, _, _, h, ρ, w, p, _, .refl hS, hrc, .refl _ _, rfl, hnil, rfl, hb, fn, v', hf, h1, h2⟩

theorem UnwT.panics {f : FuncId} {fr : Fr} {ch : List VPan} {R : EnQ} (hd : fr.ds = []) (h : R (.panicked ch) fr.rc S) : UnwT P f (some ch) fr S R := by
  intro ρ w C p b a k md hS hrc ha hm hb hk hro hfn
  have hnil : a.defers = [] := by
    have := ha.2
    rw [hd] at this
    generalize a.defers = q at this
    cases this
    rfl
  obtain ⟨ch', rfl, hch⟩ := hm
  exact ⟨_, _, _, h, ρ, w, p, _, .refl hS, hrc, .refl _ _, hnil, rfl, hb, hfn, ch', rfl, hch⟩

theorem UnwT.deferred (hn : NoCount P) {f g : FuncId} {gn : Func} {mode : Option (List VPan)} {fr : Fr} {ds : List VDef} {cap args : List VV} {R : EnQ} (hg : P.funcs[g]? = some gn) (hgb : gn.body.isSome = true) (hd : fr.ds = .fn (.func g) cap args :: ds)
    (h : CallT P g (args ++ cap) mode S fun e rc S => match e with
      | .returned _ => UnwT P f (stillV rc) { fr with ds := ds } S R
      | .panicked vs => UnwT P f (some (raiseV rc vs)) { fr with ds := ds } S R) : UnwT P f mode fr S R := by
  intro ρ w C p b a k md hS hrc ha hm hb hk hro hfn
  have hmr : md ≠ .run := by
    cases mode with
    | none => cases hm; simp
    | some ch => obtain ⟨ch', rfl, _⟩ := hm; simp
  have had := ha.2
  rw [hd] at had
  obtain ⟨d', ds', hda, hd1, hd2⟩ : ∃ d' ds', a.defers = d' :: ds' ∧ DRel ρ (.fn (.func g) cap args) d' ∧ DRels ρ ds ds' := by
    generalize a.defers = q at had
    cases had with
    | cons h1 h2 => exact ⟨_, _, rfl, h1, h2⟩
  cases hd1 with
  | fn hfr hcap hargs =>
    rename_i fn' c' a'
    cases hfr
    have hinv : (invoke (.fn (.func g) c') a').run P w = .ok (.enter g (a' ++ c')) w := callFunc_enter hn hg hgb (a' ++ c') w
    have hvr : VRels ρ (args ++ cap) (a' ++ c').toList := by rw [Array.toList_append]; exact hargs.append hcap
    have hstep := step_defer (P := P) (fr := { b.atR a k with mode := md }) (cs := C.at p) (w := w) hmr (show a.defers = _ from hda) rfl hinv
    have key : ∃ C2 p2, C2.at p2 = { b.atR { a with defers := ds' } k with mode := md } :: C.at p ∧ RcRel ρ .deferred C2 mode p2 ∧
        ∀ ρ' mode' p', RcRel ρ' .deferred C2 mode' p' → ∃ md', C2.at p' = { b.atR { a with defers := ds' } k with mode := md' } :: C.at p ∧ ModeRel ρ' mode' md' := by
      cases mode with
      | none =>
        cases hm
        refine ⟨.fixed ({ b.atR { a with defers := ds' } k with mode := .returning } :: C.at p), none, rfl, .fixed fun fr hfr => by simp [tryRecover, hfr], ?_⟩
        intro ρ' mode' p' hq
        cases hq
        exact ⟨_, rfl, rfl⟩
      | some ch =>
        obtain ⟨ch', rfl, hch⟩ := hm
        refine ⟨.over { b.atR { a with defers := ds' } k with mode := .returning } (C.at p), some ch', rfl, .over rfl hch, ?_⟩
        intro ρ' mode' p' hq
        cases hq with
        | over _ hq => exact ⟨_, rfl, _, rfl, hq⟩
    obtain ⟨C2, p2, k1, k2, k3⟩ := key
    obtain ⟨e, rc', S1, hR, ρ1, w1, p', frx, hg1, hrc1, hsteps, hleft⟩ := h ρ w .deferred C2 p2 (a' ++ c') hS k2 hvr (.inr rfl)
    obtain ⟨md', hcs, hmd⟩ := k3 _ _ _ hrc1
    rw [k1, hcs] at hsteps
    have fin : ∀ {md2 m1} mode2, step P (lone frx ({ b.atR { a with defers := ds' } k with mode := md' } :: C.at p) w1) = .next m1 → m1 = lone { b.atR { a with defers := ds' } k with mode := md2 } (C.at p) w1 → UnwT P f mode2 { fr with ds := ds } S1 R → ModeRel ρ1 mode2 md2 →
        ∃ e rc' S', R e rc' S' ∧ ∃ ρ' w' p' fr', Goes P.globals.size ρ S w ρ' S' w' ∧ RcRel ρ' b.kind C rc' p' ∧ Steps P (lone { b.atR a k with mode := md } (C.at p) w) (lone fr' (C.at p') w') ∧ Left P ρ' f b.kind fr' w' e := by
      intro md2 m1 mode2 hst hm1 hu hmm
      subst hm1
      obtain ⟨e, rc', S', u1, ρ', w', p', fr', u2, u3, u4, u5⟩ := hu ρ1 w1 C p b { a with defers := ds' } k md2 hg1.sim (hrc.mono hg1.ext) ⟨ha.1.mono hg1.ext, hd2.mono hg1.ext⟩ hmm hb hk hro hfn
      exact ⟨e, rc', S', u1, ρ', w', p', fr', hg1.trans u2, u3, (Steps.head hstep hsteps).trans (.head hst u4), u5⟩
    cases e with
    | returned v =>
      obtain ⟨m1, m2, m3, m4, fn0, v', m5, m6, m7⟩ := hleft
      have hst := step_going_returned (P := P) (fr := frx) (c := { b.atR { a with defers := ds' } k with mode := md' }) (cs := C.at p) (w := w1) (v := v') m3 ⟨m1, m2, fn0, by rw [m4]; exact m5, m6⟩
      exact fin (md2 := settle md') (stillV rc') hst rfl hR (stillV_rel hmd)
    | panicked vs =>
      obtain ⟨m1, m2, m3, ⟨fn0, m5⟩, vs', m6, m7⟩ := hleft
      have hst := step_going_panicked (P := P) (fr := frx) (c := { b.atR { a with defers := ds' } k with mode := md' }) (cs := C.at p) (w := w1) (chain := vs') ⟨m6, m1, fn0, by rw [m3]; exact m5⟩
      exact fin (md2 := raised md' vs') (some (raiseV rc' vs)) hst rfl hR (raiseV_rel hmd m7)

end Go.Vm

/-
  A logic over the virtual states (3): ranges over functions, and their rounds. Nothing of any one program.
-/
namespace Go.Vm
variable {P : Program} {G : Nat} {ρ ρ' : Ren} {S : St} {w : World}

/-- a round of a range over a function -/
def RoundT (P : Program) (l : Nat) (args : List VV) (S : St) (R : En → St → Prop) : Prop :=
  ∀ ρ w r n k (args' : Array Value), Sim P.globals.size ρ S w → ρ l = some (r, n, k) → VRels ρ args args'.toList →
    ∃ fn tmps assign body w0, (Instr.yield r args').run P w = .ok (.round r fn tmps assign body) w0 ∧ w0 = w ∧ ∀ c cs, ∃ e S', R e S' ∧ ∃ ρ' w', Goes P.globals.size ρ S w ρ' S' w' ∧ match e with
      | .returned v => ∃ v', VRel ρ' v v' ∧ Steps P (lone (Frame.round r fn tmps assign body .normal) (c :: cs) w) (lone (c.finish v') cs w')
      | .panicked ch => ∃ ch', PanRels ρ' ch ch' ∧ Steps P (lone (Frame.round r fn tmps assign body .normal) (c :: cs) w) (lone (c.raise ch') cs w')

theorem RoundT.of {l : Nat} {args : List VV} {R : En → St → Prop} {lo : VLoop} (hlo : loopAt S l = some lo) (hlen : args.length = lo.params.length) (hps : lo.params.all (fun d => Nat.blt d lo.n) = true) (hfn : ∃ fn, P.funcs[lo.fn]? = some fn)
    (h : CodeT P { fn := lo.fn, round := some l } lo.assign { t := setParams lo.t lo.params args, n := lo.n, ds := [], rc := none } S fun x fr S1 => x = .normal ∧ ∃ lo1, loopAt S1 l = some lo1 ∧ lo1.state = .ready ∧
      CodeT P { fn := lo.fn, round := some l } lo.body fr (putLoop S1 l { lo1 with state := .busy }) fun x fr S2 => fr.ds = [] ∧ ∃ lo2, loopAt S2 l = some lo2 ∧ match x with
        | .normal => R (.returned (.bool true)) (putLoop S2 l { lo2 with state := .ready, pending := none })
        | .panic ch => R (.panicked ch) S2
        | _ => False) : RoundT P l args S R := by
  intro ρ w rb nb kb args' hS hl ha
  obtain ⟨hget, r0, b0, n0, lo', q1, q2, q3⟩ := loopAt_rel hS hlo
  rw [hl] at q1
  cases q1
  have hsz : args'.size = lo'.params.size := by
    rw [← Array.length_toList, ha.length, hlen, ← q3.params, Array.length_toList]
  refine ⟨lo'.fn, _, lo'.assign, lo'.body, w, run_yield q2 hsz, rfl, ?_⟩
  intro c cs
  let b : Frame := { (default : Frame) with fn := lo.fn, kind := .normal, roundOf := some rb }
  have htr : TRel ρ (setParams lo.t lo.params args) lo.n ((lo'.params.zip args').foldl (fun tmps (t, a) => tmps.setIfInBounds t a) lo'.tmps) := by
    have := setParams_rel (n := lo.n) lo.params args q3.tmps ha (by simpa [Nat.blt_eq] using hps)
    have e : lo.params.zip args'.toList = (lo'.params.zip args').toList := by rw [← q3.params, Array.toList_zip]
    rw [e, Array.foldl_toList] at this
    exact this
  rw [show Frame.round rb lo'.fn ((lo'.params.zip args').foldl (fun tmps (t, a) => tmps.setIfInBounds t a) lo'.tmps) lo'.assign lo'.body .normal =
    b.atR { tmps := (lo'.params.zip args').foldl (fun tmps (t, a) => tmps.setIfInBounds t a) lo'.tmps, defers := [] } [.code lo.assign, .beginRound, .code lo.body] by
      simp [Frame.round, Frame.atR, b, q3.fn, q3.assign, q3.body]]
  obtain ⟨x1, fr1, S1, ⟨rfl, lo1, hlo1, hst, hb⟩, ρ1, w1, p1, a1, hg1, hrc1, ha1, hre1⟩ := h ρ w b (.fixed (c :: cs)) none { tmps := (lo'.params.zip args').foldl (fun tmps (t, a) => tmps.setIfInBounds t a) lo'.tmps, defers := [] } [.beginRound, .code lo.body] hS
    ⟨rfl, rfl, rb, nb, kb, hl, rfl⟩ (.normal _) ⟨htr, .nil⟩
  obtain ⟨hget1, r1, b1, n1, lo1', s1, s2, s3⟩ := loopAt_rel hg1.sim hlo1
  have hl1' := hg1.ext _ _ hl
  rw [hl1'] at s1
  cases s1
  have hgb : Goes P.globals.size ρ1 S1 w1 ρ1 (putLoop S1 l { lo1 with state := .busy }) (w1.putObj rb (.loop { lo1' with state := .busy })) :=
    putLoop_goes hg1.sim hget1 hl1' ⟨rfl, s3.pending, s3.fn, s3.tmps, s3.params, s3.assign, s3.body, s3.defers⟩
  have hstep1 : step P (lone (b.atR a1 [.beginRound, .code lo.body]) (c :: cs) w1) = .next (lone (b.atR a1 [.code lo.body]) (c :: cs) (w1.putObj rb (.loop { lo1' with state := .busy }))) :=
    stepR_beginRound rfl (run_beginRound s2 (s3.state.trans hst))
  obtain ⟨x2, fr2, S2, ⟨hds, lo2, hlo2, hR⟩, ρ2, w2, p2, a2, hg2, hrc2, ha2, hre2⟩ := hb ρ1 _ b (.fixed (c :: cs)) p1 a1 [] hgb.sim ⟨rfl, rfl, rb, nb, kb, hl1', rfl⟩ hrc1 ha1
  have hto : Steps P (lone (b.atR { tmps := (lo'.params.zip args').foldl (fun tmps (t, a) => tmps.setIfInBounds t a) lo'.tmps, defers := [] } [.code lo.assign, .beginRound, .code lo.body]) (c :: cs) w)
      (lone (b.atR a1 [.code lo.body]) (c :: cs) (w1.putObj rb (.loop { lo1' with state := .busy }))) := Steps.trans hre1 (.one hstep1)
  have hg02 : Goes P.globals.size ρ S w ρ2 S2 w2 := (hg1.trans hgb).trans hg2
  obtain ⟨hget2, r2, b2, n2, lo2', t1, t2, t3⟩ := loopAt_rel hg2.sim hlo2
  have hl2' := hg02.ext _ _ hl
  rw [hl2'] at t1
  cases t1
  have lastg : ∀ (st : LoopState) (jump : Option Code), Goes P.globals.size ρ S w ρ2 (putLoop S2 l { lo2 with state := st, pending := jump }) (w2.putObj rb (.loop { lo2' with state := st, pending := jump })) := fun st jump =>
    hg02.trans (putLoop_goes hg2.sim hget2 hl2' ⟨rfl, rfl, t3.fn, t3.tmps, t3.params, t3.assign, t3.body, t3.defers⟩)
  cases x2 with
  | normal => exact ⟨_, _, hR, ρ2, _, lastg .ready none, .bool true, .bool true, (hto.trans hre2).trans (.one (stepR_round_end rfl rfl (run_endRound none t2)))⟩
  | ret => exact hR.elim
  | exit id => exact hR.elim
  | panic ch =>
    obtain ⟨k', ch', hch, hre2⟩ := hre2
    obtain ⟨fn, hfn⟩ := hfn
    have hnil : a2.defers = [] := by
      have := ha2.2
      rw [hds] at this
      generalize a2.defers = q at this
      cases this
      rfl
    exact ⟨_, _, hR, ρ2, _, hg02, ch', hch, (hto.trans hre2).trans (.one (step_leave_panicked ⟨rfl, hnil, fn, hfn⟩))⟩

theorem RoundT.mono {l : Nat} {args : List VV} {R R' : En → St → Prop} (h : RoundT P l args S R) (hq : ∀ e S, R e S → R' e S) : RoundT P l args S R' := by
  intro ρ w r n k args' hS hl ha
  obtain ⟨fn, tmps, assign, body, w0, h1, h2, h3⟩ := h ρ w r n k args' hS hl ha
  refine ⟨fn, tmps, assign, body, w0, h1, h2, fun c cs => ?_⟩
  obtain ⟨e, S', q1, q2⟩ := h3 c cs
  exact ⟨e, S', hq _ _ q1, q2⟩

theorem RoundT.within {l : Nat} {args : List VV} {R R' : En → St → Prop} (h : RoundT P l args S R) (hq : ∀ e S, R e S → ∃ S', Within S' S ∧ R' e S') : RoundT P l args S R' := by
  intro ρ w r n k args' hS hl ha
  obtain ⟨fn, tmps, assign, body, w0, h1, h2, h3⟩ := h ρ w r n k args' hS hl ha
  refine ⟨fn, tmps, assign, body, w0, h1, h2, fun c cs => ?_⟩
  obtain ⟨e, S', q1, ρ', w', q2, q3⟩ := h3 c cs
  obtain ⟨S2, q4, q5⟩ := hq _ _ q1
  exact ⟨e, S2, q5, ρ', w', q2.within q4, q3⟩

theorem FunT.within {f : FuncId} {args : List VV} {R R' : En → St → Prop} (h : FunT P f args S R) (hq : ∀ e S, R e S → ∃ S', Within S' S ∧ R' e S') : FunT P f args S R' := by
  intro ρ w args' hS ha s hs c cs hc
  obtain ⟨e, S', h1, ρ', w', h2, h3⟩ := h ρ w args' hS ha s hs c cs hc
  obtain ⟨S2, h4, h5⟩ := hq _ _ h1
  exact ⟨e, S2, h5, ρ', w', h2.within h4, h3⟩

theorem OpersT.yield {fi : FI} {ops : Array Oper} {i : Nat} {o : Oper} {c : Call} {fr : Fr} {l : Nat} {args : List VV} {Q : ExQ} (ho : ops[i]? = some o) (hw : wantedV ops o (fun d => fr.t.get d) = some true)
    (hop : o.op = .call c) (hc : calleeV (fr.ev P.globals.size) c = some (.yield l, args))
    (h : RoundT P l args S fun e S1 => match e with
      | .returned v => ∃ fr1, fr.put o.dst v = some fr1 ∧ OpersT P fi ops (i + 1) fr1 S1 Q
      | .panicked ch => Q (.panic ch) fr S1) : OpersT P fi ops i fr S Q := by
  intro ρ w b C p a k hS hx hrc ha
  have hwr := wanted_rel (tmps := a.tmps) (fun t v ht => ha.1.2 t v ht) hw
  have hnd : ∀ d, o.op ≠ .defer d := by simp [hop]
  rw [range_at ho]
  obtain ⟨fn', first, captured, q1, q2, q3, _, q5⟩ := callee_rel (P := P) (ha.ev hS) hop hc
  cases q1 with
  | yield hl =>
  rename_i r bb n
  have hcap := q5 l rfl
  subst hcap
  obtain ⟨fn, tmps, assign, body, w0, h1, rfl, h2⟩ := h ρ w r bb n first hS hl (by simpa using q2)
  obtain ⟨e, S1, hR, ρ1, w1, hg, hgo⟩ := h2 (b.atR a (.inRegion ops (i :: List.range' (i + 1) (ops.size - (i + 1))) :: k)) (C.at p)
  have hrun : (execOp a.eval o).run P w0 = .ok (.round r fn tmps assign body) w0 := by rw [q3 w0]; exact h1
  cases e with
  | returned v =>
    obtain ⟨fr1, hp, h1⟩ := hR
    obtain ⟨v', hv, hst⟩ := hgo
    obtain ⟨ha1, hrc1⟩ := put_rel hp (ha.mono hg.ext) hv
    refine .of_goes hg (.of_steps ?_ (h1 ρ1 w1 b C p (a.put o.dst v') k hg.sim (hx.mono hg.ext) (by rw [hrc1]; exact hrc.mono hg.ext) ha1))
    refine steps_op ho hwr ?_
    rw [Oper.semAt_eq _ _ _ hnd, ← finish_op (b := b) (k := k) ho v']
    exact ⟨_, _, _, apply_round hrun, hst⟩
  | panicked ch =>
    obtain ⟨ch', hch, hst⟩ := hgo
    refine ⟨.panic ch, fr, S1, hR, ρ1, w1, p, a, hg, hrc.mono hg.ext, ha.mono hg.ext, .inRegion ops (i :: List.range' (i + 1) (ops.size - (i + 1))) :: k, ch', hch, ?_⟩
    refine steps_op ho hwr ?_
    rw [Oper.semAt_eq _ _ _ hnd]
    exact ⟨_, _, _, apply_round hrun, hst⟩

theorem CodeT.rangeFunc {fi : FI} (hfi : fi.round = none) {f : Operand} {ps : Array Tmp} {x y : Code} {fr : Fr} {Q : ExQ} {g : FuncId} {first captured : List VV}
    (hv : fr.ev P.globals.size f = .func (.func g) first captured)
    (h : FunT P g (first ++ [.func (.yield (S.nx + 1)) [] []] ++ captured) { h := (S.h.set S.nx (.deferred (some []))).set (S.nx + 1) (.loop { state := .ready, pending := none, fn := fi.fn, t := fr.t, n := fr.n, params := ps.toList, assign := x, body := y, defers := S.nx }), nx := S.nx + 2 }
      fun e S2 => match e with
        | .panicked ch => Q (.panic ch) { fr with ds := .collected S.nx :: fr.ds } S2
        | .returned _ => ∃ lo, loopAt S2 (S.nx + 1) = some lo ∧ lo.state ≠ .busy ∧ lo.pending = none ∧ Q .normal { fr with ds := .collected S.nx :: fr.ds } (putLoop S2 (S.nx + 1) { lo with state := .exhausted })) :
    CodeT P fi (.rangeFunc f ps x y) fr S Q := by
  intro ρ w b C p a k hS hx hrc ha
  obtain ⟨ρ1, mark', w1, lr, e1, e2, e3, hg1⟩ := enter_rel (S1 := { h := S.h.set S.nx (.deferred (some [])), nx := S.nx + 1 }) (mark := [VDef.collected S.nx]) (ds := S.nx) hS hx ha (by rw [hfi]) ps x y
  have ha1 : ARel ρ1 { fr with ds := [VDef.collected S.nx] ++ fr.ds } { a with defers := mark' ++ a.defers } := ⟨ha.1.mono hg1.ext, e3.append (ha.2.mono hg1.ext)⟩
  have hf := ha1.ev hg1.sim f
  have hv' : ({ fr with ds := [VDef.collected S.nx] ++ fr.ds } : Fr).ev P.globals.size f = .func (.func g) first captured := hv
  rw [hv'] at hf
  have hq : ∃ q, ({ a with defers := mark' ++ a.defers } : Act).eval f = q := ⟨_, rfl⟩
  obtain ⟨q, hq⟩ := hq
  rw [hq] at hf
  cases hf with
  | func hfn h1 h2 =>
    rename_i fn' f' c'
    cases hfn
    have hargs : VRels ρ1 (first ++ [VV.func (.yield (S.nx + 1)) [] []] ++ captured) ((f' ++ #[Value.func (.yield lr) #[] #[]]) ++ c').toList := by
      simp only [Array.toList_append]
      exact ((h1.append (.cons (.func (.yield e2) .nil .nil) .nil)).append h2)
    have hq' : a.eval f = .func (.func g) f' c' := hq
    obtain ⟨e, S2, hm, ρ2, w2, hg2, hgo⟩ := h ρ1 w1 _ hg1.sim hargs (do let d ← resolve a.eval (rangeCall f lr) 0; invoke d.target d.args) (by
        simp only [resolve, rangeCall, Deferred.ofValue, hq', Sem.run_bind, Sem.run_pure, Result.andThen_ok]
        simp [Act.eval, invoke]) (b.atR { a with defers := mark' ++ a.defers } (.inRangeFunc lr :: k)) (C.at p) (.inr ⟨_, _, rfl⟩)
    have hg := hg1.trans hg2
    have ha2 := ha1.mono hg2.ext
    cases e with
    | panicked ch =>
      obtain ⟨ch', hch, happ⟩ := hgo
      exact ⟨_, _, _, hm, ρ2, w2, p, _, hg, hrc.mono hg.ext, ha2, _, ch', hch, steps_range e1 happ⟩
    | returned v =>
      obtain ⟨v', _, happ⟩ := hgo
      obtain ⟨lo, hlo, hst, hpend, hQ⟩ := hm
      obtain ⟨hget, r0, b0, n0, lo', q1, q2, q3⟩ := loopAt_rel hg2.sim hlo
      have e2' := hg2.ext _ _ e2
      rw [e2'] at q1
      cases q1
      have hgl : Goes P.globals.size ρ2 S2 w2 ρ2 (putLoop S2 (S.nx + 1) { lo with state := .exhausted }) (w2.putObj lr (.loop { lo' with state := .exhausted })) :=
        putLoop_goes hg2.sim hget e2' ⟨rfl, q3.pending, q3.fn, q3.tmps, q3.params, q3.assign, q3.body, q3.defers⟩
      have hgg := hg.trans hgl
      have s1 := steps_range e1 happ
      rw [finish_atR_inRangeFunc] at s1
      have s2 := stepR_endRangeFunc (b := b) (a := { a with defers := mark' ++ a.defers }) (k := k) (cs := C.at p) (run_endLoop (P := P) q2 (by rw [q3.state]; exact hst))
      rw [show (lo'.pending.map Item.code).toList = [] by rw [q3.pending, hpend]; rfl] at s2
      exact ⟨.normal, _, _, hQ, ρ2, _, p, _, hgg, hrc.mono hgg.ext, ha2, s1.trans (.one s2)⟩

theorem UnwT.collected {f : FuncId} {mode : Option (List VPan)} {fr : Fr} {ds calls : List VDef} {id : Nat} {S1 : St} {R : EnQ} (hd : fr.ds = .collected id :: ds) (ht : takeV S id = some (calls, S1)) (h : UnwT P f mode { fr with ds := calls ++ ds } S1 R) : UnwT P f mode fr S R := by
  intro ρ w C p b a k md hS hrc ha hm hb hk hro hfn
  have hmr : md ≠ .run := by
    cases mode with
    | none => cases hm; simp
    | some ch => obtain ⟨ch', rfl, _⟩ := hm; simp
  have had := ha.2
  rw [hd] at had
  obtain ⟨d', ds', hda, hd1, hd2⟩ : ∃ d' ds', a.defers = d' :: ds' ∧ DRel ρ (.collected id) d' ∧ DRels ρ ds ds' := by
    generalize a.defers = q at had
    cases had with
    | cons h1 h2 => exact ⟨_, _, rfl, h1, h2⟩
  cases hd1 with
  | collected hρ =>
    obtain ⟨calls', w1, h1, h2, h3⟩ := takeV_rel (P := P) hS ht hρ
    have hstep := stepR_collected (P := P) (fr := { b.atR a k with mode := md }) (cs := C.at p) hmr (show a.defers = _ from hda) h1
    obtain ⟨e, rc', S', u1, ρ', w', p', fr', u2, u3, u4, u5⟩ := h ρ w1 C p b { a with defers := calls' ++ ds' } k md h3.sim hrc ⟨ha.1, h2.append hd2⟩ hm hb hk hro hfn
    exact ⟨e, rc', S', u1, ρ', w', p', fr', h3.trans u2, u3, .head hstep u4, u5⟩

end Go.Vm

/-
  A logic over the virtual states (2): what must be so ahead of a piece of code, reckoned backwards. Nothing of any one program.
-/
namespace Go.Vm
variable {P : Program} {ρ ρ' : Ren} {S : St} {w : World}

/-- what the logic leans on -/
structure Base (P : Program) (ov : Ov) : Prop where
  mix : P.follows .mixedOrders = true
  count : NoCount P
  ov : OvSound P ov

variable {ov : Ov}

def wpSimple (P : Program) (o : Oper) (fr : Fr) (S : St) (K : Fr → St → Prop) : Prop :=
  match simpleV P (fr.ev P.globals.size) S o.op with
  | some (v, S1) => match fr.put o.dst v with
    | some fr1 => K fr1 S1
    | none => False
  | none => False

/-- a call's end -/
def wpEnd (o : Oper) (fr : Fr) (K : Fr → St → Prop) (Q : ExQ) (e : En) (S1 : St) : Prop :=
  match e with
  | .returned v => match fr.put o.dst v with
    | some fr1 => K fr1 S1
    | none => False
  | .panicked ch => Q (.panic ch) fr S1

/-- a call of a function value -/
def wpCall (P : Program) (ov : Ov) (o : Oper) (fr : Fr) (S : St) (K : Fr → St → Prop) (Q : ExQ) (x : Option (Fn × List VV)) : Prop :=
  match x with
  | some (.func f, args) => match ov f with
    | some g => match g args S with
      | some (e, S1) => wpEnd o fr K Q e S1
      | none => False
    | none => FunT P f args S fun e S1 => wpEnd o fr K Q e S1
  | some (.yield l, args) => RoundT P l args S fun e S1 => wpEnd o fr K Q e S1
  | _ => False

def wpOper (P : Program) (ov : Ov) (fi : FI) (o : Oper) (fr : Fr) (S : St) (K : Fr → St → Prop) (Q : ExQ) : Prop :=
  match o.op with
  | .call c => match c.callee with
    | .builtin .recover => match fi.round with
      | some _ => False
      | none => match recoverV fr.rc with
        | (v, rc) => match ({ fr with rc := rc } : Fr).put o.dst v with
          | some fr => K fr S
          | none => False
    | .builtin _ => wpSimple P o fr S K
    | _ => wpCall P ov o fr S K Q (calleeV (fr.ev P.globals.size) c)
  | .defer c => match fi.round, deferV (fr.ev P.globals.size) c with
    | none, some d => match ({ fr with ds := d :: fr.ds } : Fr).put o.dst undefV with
      | some fr1 => K fr1 S
      | none => False
    | _, _ => False
  | .panic x => match panicV (fr.ev P.globals.size x) with
    | some ch => Q (.panic ch) fr S
    | none => False
  | .next it s => match nextV S (fr.ev P.globals.size it) s with
    | some l => ∀ v S1, (v, S1) ∈ l → ∃ fr1, fr.put o.dst v = some fr1 ∧ K fr1 S1
    | none => False
  | _ => wpSimple P o fr S K

def wpOpers (P : Program) (ov : Ov) (fi : FI) (ops : Array Oper) : List Oper → Fr → St → ExQ → Prop
  | [], fr, S, Q => Q .normal fr S
  | o :: l, fr, S, Q => match wantedV ops o (fun d => fr.t.get d) with
    | some true => wpOper P ov fi o fr S (fun fr S => wpOpers P ov fi ops l fr S Q) Q
    | some false => match fr.put o.dst undefV with
      | some fr1 => wpOpers P ov fi ops l fr1 S Q
      | none => False
    | none => False

/-- what goes on behind a piece that ends -/
def seqK (k : Fr → St → Prop) (Q : ExQ) : ExQ := fun e fr S => match e with
  | .normal => k fr S
  | e => Q e fr S
/-- out of a block -/
def blockK (id : Nat) (Q : ExQ) : ExQ := fun e fr S => match e with
  | .exit i => match Nat.beq i id with
    | true => Q .normal fr S
    | false => Q (.exit i) fr S
  | e => Q e fr S
/-- either way -/
def onBool (x : VV) (A B : Prop) : Prop := match x with
  | .bool true => A
  | .bool false => B
  | _ => False

def wp (P : Program) (ov : Ov) (fi : FI) : Code → Fr → St → ExQ → Prop
  | .skip, fr, S, Q => Q .normal fr S
  | .region id ops draw, fr, S, Q => match draw with
    | true => CodeT P fi (.region id ops true) fr S Q
    | false => wpOpers P ov fi ops ops.toList fr S Q
  | .seq a b, fr, S, Q => wp P ov fi a fr S (seqK (fun fr S => wp P ov fi b fr S Q) Q)
  | .cond c t e, fr, S, Q => onBool (fr.ev P.globals.size c) (wp P ov fi t fr S Q) (wp P ov fi e fr S Q)
  | .block id b, fr, S, Q => wp P ov fi b fr S (blockK id Q)
  | .exit id, fr, S, Q => Q (.exit id) fr S
  | .ret, fr, S, Q => Q .ret fr S
  | c, fr, S, Q => CodeT P fi c fr S Q

theorem wpSimple_sound {fi : FI} {ops : Array Oper} {i : Nat} {o : Oper} {fr : Fr} {Q : ExQ} (ho : ops[i]? = some o) (hw : wantedV ops o (fun d => fr.t.get d) = some true) (hnd : ∀ c, o.op ≠ .defer c)
    (h : wpSimple P o fr S fun fr S => OpersT P fi ops (i + 1) fr S Q) : OpersT P fi ops i fr S Q := by
  unfold wpSimple at h
  cases hs : simpleV P (fr.ev P.globals.size) S o.op with
  | none => simp [hs] at h
  | some q =>
    obtain ⟨v, S1⟩ := q
    simp only [hs] at h
    cases hp : fr.put o.dst v with
    | none => simp [hp] at h
    | some fr1 =>
      simp only [hp] at h
      exact .simple ho hw hs hnd hp h

theorem OpersT.recover {fi : FI} {ops : Array Oper} {i : Nat} {o : Oper} {c : Call} {fr fr1 : Fr} {v : VV} {rc : Option (List VPan)} {Q : ExQ} (ho : ops[i]? = some o) (hw : wantedV ops o (fun d => fr.t.get d) = some true)
    (hop : o.op = .call c) (hcc : c.callee = .builtin .recover) (hr : fi.round = none) (hv : recoverV fr.rc = (v, rc)) (hp : ({ fr with rc := rc } : Fr).put o.dst v = some fr1) (h : OpersT P fi ops (i + 1) fr1 S Q) : OpersT P fi ops i fr S Q := by
  intro ρ w b C p a k hS hx hrc ha
  have hwr := wanted_rel (tmps := a.tmps) (fun t v ht => ha.1.2 t v ht) hw
  have hnd : ∀ d, o.op ≠ .defer d := by simp [hop]
  have hro : b.roundOf = none := by have := hx.round; simpa [hr] using this
  rw [range_at ho]
  obtain ⟨v', p', h1, h2, h3⟩ := recover_rel hrc (c := b.atR a (.inRegion ops (i :: List.range' (i + 1) (ops.size - (i + 1))) :: k)) rfl
  rw [hv] at h1 h2
  obtain ⟨ha1, hrc1⟩ := put_rel (fr := { fr with rc := rc }) hp (show ARel ρ { fr with rc := rc } a from ha) h1
  refine .of_steps ?_ (h ρ w b C p' (a.put o.dst v') k hS hx (by rw [hrc1]; exact h2) ha1)
  refine steps_op ho hwr ?_
  rw [Oper.semAt_eq _ _ _ hnd, ← finish_op (b := b) (k := k) ho v']
  have hrun : (execOp a.eval o).run P w = .ok .recover w := by rw [builtin_run hop hcc]; rfl
  refine ⟨_, _, _, ?_, .refl _ _⟩
  rw [apply_recover (by simpa [Frame.atR] using hro) hrun]
  rcases h3 with h3 | ⟨h3, rfl, h4⟩
  · rw [h3]
  · rw [h3, h4]

theorem wpEnd_spec {o : Oper} {fr : Fr} {K : Fr → St → Prop} {Q : ExQ} {e : En} {S1 : St} (h : wpEnd o fr K Q e S1) : match e with
    | .returned v => ∃ fr1, fr.put o.dst v = some fr1 ∧ K fr1 S1
    | .panicked ch => Q (.panic ch) fr S1 := by
  cases e with
  | returned v =>
    simp only [wpEnd] at h
    split at h
    · rename_i fr1 hp; exact ⟨fr1, hp, h⟩
    · exact h.elim
  | panicked ch => exact h

theorem wpOper_sound (hb : Base P ov) {fi : FI} {ops : Array Oper} {i : Nat} {o : Oper} {fr : Fr} {Q : ExQ} (ho : ops[i]? = some o) (hw : wantedV ops o (fun d => fr.t.get d) = some true)
    (h : wpOper P ov fi o fr S (fun fr S => OpersT P fi ops (i + 1) fr S Q) Q) : OpersT P fi ops i fr S Q := by
  unfold wpOper at h
  cases hop : o.op <;> simp only [hop] at h
  case call c =>
    have calls : wpCall P ov o fr S (fun fr S => OpersT P fi ops (i + 1) fr S Q) Q (calleeV (fr.ev P.globals.size) c) → OpersT P fi ops i fr S Q := by
      intro h
      unfold wpCall at h
      cases hc : calleeV (fr.ev P.globals.size) c with
      | none => simp [hc] at h
      | some q =>
        obtain ⟨fn, args⟩ := q
        cases fn with
        | func f =>
          simp only [hc] at h
          refine .call ho hw hop hc ?_
          cases hov : ov f with
          | none => simp only [hov] at h; exact h.mono fun e S q => by have := wpEnd_spec q; cases e <;> exact this
          | some g =>
            simp only [hov] at h
            cases hg : g args S with
            | none => simp [hg] at h
            | some q =>
              obtain ⟨e, S1⟩ := q
              simp only [hg] at h
              exact .of_ov hb.ov hov hg (by have := wpEnd_spec h; cases e <;> exact this)
        | yield l =>
          simp only [hc] at h
          exact .yield ho hw hop hc (h.mono fun e S q => by have := wpEnd_spec q; cases e <;> exact this)
        | _ => simp [hc] at h
    have builtin : wpSimple P o fr S (fun fr S => OpersT P fi ops (i + 1) fr S Q) → OpersT P fi ops i fr S Q := wpSimple_sound ho hw (by simp [hop])
    cases hcc : c.callee with
    | value f => simp only [hcc] at h; exact calls h
    | invoke rr m => simp only [hcc] at h; exact calls h
    | builtin bb =>
      by_cases hrec : bb = .recover
      · subst hrec
        simp only [hcc] at h
        cases hr : fi.round with
        | some l => simp [hr] at h
        | none =>
          simp only [hr] at h
          generalize hrv : recoverV fr.rc = q at h
          obtain ⟨v, rc1⟩ := q
          simp only at h
          split at h
          · rename_i fr1 hp; exact .recover ho hw hop hcc hr hrv hp h
          · exact h.elim
      · cases bb <;> first | (exact absurd rfl hrec) | (simp only [hcc] at h; exact builtin h)
  case defer c =>
    cases hr : fi.round with
    | some l => simp [hr] at h
    | none =>
      cases hd : deferV (fr.ev P.globals.size) c with
      | none => simp [hr, hd] at h
      | some d =>
        simp only [hr, hd] at h
        cases hp : ({ fr with ds := d :: fr.ds } : Fr).put o.dst undefV with
        | none => simp [hp] at h
        | some fr1 => simp only [hp] at h; exact .defer ho hw hop hr hd hp h
  case panic x =>
    cases hp : panicV (fr.ev P.globals.size x) with
    | none => simp [hp] at h
    | some ch => simp only [hp] at h; exact .panic ho hw hop hp h
  case next it s =>
    cases hl : nextV S (fr.ev P.globals.size it) s with
    | none => simp [hl] at h
    | some l => simp only [hl] at h; exact .next ho hw hop hl h
  all_goals exact wpSimple_sound ho hw (by simp [hop]) h

theorem wpEnd_mono {o : Oper} {fr : Fr} {K K' : Fr → St → Prop} {Q : ExQ} (hk : ∀ fr S, K fr S → K' fr S) {e : En} {S1 : St} (h : wpEnd o fr K Q e S1) : wpEnd o fr K' Q e S1 := by
  cases e with
  | returned v =>
    simp only [wpEnd] at h ⊢
    split at h
    · exact hk _ _ h
    · exact h
  | panicked ch => exact h

theorem wpOper_mono {fi : FI} {o : Oper} {fr : Fr} {K K' : Fr → St → Prop} {Q : ExQ} (hk : ∀ fr S, K fr S → K' fr S) (h : wpOper P ov fi o fr S K Q) : wpOper P ov fi o fr S K' Q := by
  have simple : wpSimple P o fr S K → wpSimple P o fr S K' := by
    unfold wpSimple
    intro h
    split at h
    · split at h
      · exact hk _ _ h
      · exact h
    · exact h
  unfold wpOper at h ⊢
  split at h
  · split at h
    · split at h
      · exact h
      · split at h
        exact (by split at h; exact hk _ _ h; exact h)
    · exact simple h
    · unfold wpCall at h ⊢
      split at h
      · split at h
        · split at h
          · exact wpEnd_mono hk h
          · exact h
        · exact h.mono fun e S q => wpEnd_mono hk q
      · exact h.mono fun e S q => wpEnd_mono hk q
      · exact h
  · split at h
    · split at h
      · exact hk _ _ h
      · exact h
    · exact h
  · exact h
  · split at h
    · exact fun v S1 hm => let ⟨fr1, h1, h2⟩ := h v S1 hm; ⟨fr1, h1, hk _ _ h2⟩
    · exact h
  · exact simple h

theorem wpOpers_sound (hb : Base P ov) {fi : FI} {ops : Array Oper} {Q : ExQ} : ∀ (l : List Oper) (i : Nat) {fr : Fr} {S : St}, (∀ j, l[j]? = ops[i + j]?) → wpOpers P ov fi ops l fr S Q → OpersT P fi ops i fr S Q := by
  intro l
  induction l with
  | nil =>
    intro i fr S hi h
    refine .nil ?_ h
    have := hi 0
    rcases Nat.lt_or_ge i ops.size with q | q
    · simp [Array.getElem?_eq_getElem q] at this
    · exact q
  | cons o l ih =>
    intro i fr S hi h
    have ho : ops[i]? = some o := by have := hi 0; simpa using this.symm
    have hi' : ∀ j, l[j]? = ops[i + 1 + j]? := fun j => by have := hi (j + 1); rw [show i + 1 + j = i + (j + 1) by omega]; simpa using this
    simp only [wpOpers] at h
    cases hw : wantedV ops o (fun d => fr.t.get d) with
    | none => simp [hw] at h
    | some q =>
      cases q with
      | true =>
        simp only [hw] at h
        exact wpOper_sound hb ho hw (wpOper_mono (fun fr S q => ih (i + 1) hi' q) h)
      | false =>
        simp only [hw] at h
        cases hp : fr.put o.dst undefV with
        | none => simp [hp] at h
        | some fr1 =>
          simp only [hp] at h
          exact .skip ho hw hp (ih (i + 1) hi' h)

theorem wp_sound (hb : Base P ov) {fi : FI} : ∀ (c : Code) {fr : Fr} {S : St} {Q : ExQ}, wp P ov fi c fr S Q → CodeT P fi c fr S Q := by
  intro c
  induction c with
  | skip => intro fr S Q h; exact .skip h
  | region id ops draw =>
    intro fr S Q h
    cases draw with
    | true => exact h
    | false => exact .region (wpOpers_sound hb ops.toList 0 (by simp) h)
  | seq a b iha ihb =>
    intro fr S Q h
    refine .seq ((iha h).mono ?_)
    intro e fr S q
    cases e with
    | normal => exact ihb q
    | _ => exact q
  | cond c t e iht ihe =>
    intro fr S Q h
    simp only [wp, onBool] at h
    split at h
    · rename_i hv; exact .cond hv (iht h)
    · rename_i hv; exact .cond hv (ihe h)
    · exact h.elim
  | block id b ih =>
    intro fr S Q h
    refine .block ((ih h).mono ?_)
    intro e fr S q
    cases e with
    | exit i =>
      simp only [blockK] at q ⊢
      cases hi : Nat.beq i id <;> simpa [hi] using q
    | _ => exact q
  | exit id => intro fr S Q h; exact .exit h
  | ret => intro fr S Q h; exact .ret h
  | _ => intro fr S Q h; exact h

theorem seqK_normal {k : Fr → St → Prop} {Q : ExQ} {fr : Fr} {S : St} (h : k fr S) : seqK k Q .normal fr S := h
theorem seqK_exit {k : Fr → St → Prop} {Q : ExQ} {fr : Fr} {S : St} {i : Nat} (h : Q (.exit i) fr S) : seqK k Q (.exit i) fr S := h
theorem seqK_ret {k : Fr → St → Prop} {Q : ExQ} {fr : Fr} {S : St} (h : Q .ret fr S) : seqK k Q .ret fr S := h
theorem seqK_panic {k : Fr → St → Prop} {Q : ExQ} {fr : Fr} {S : St} {ch : List VPan} (h : Q (.panic ch) fr S) : seqK k Q (.panic ch) fr S := h
theorem blockK_normal {id : Nat} {Q : ExQ} {fr : Fr} {S : St} (h : Q .normal fr S) : blockK id Q .normal fr S := h
theorem blockK_exit {id : Nat} {Q : ExQ} {fr : Fr} {S : St} (h : Q .normal fr S) : blockK id Q (.exit id) fr S := by simp only [blockK, Nat.beq_refl]; exact h
theorem blockK_exit_ne {id i : Nat} {Q : ExQ} {fr : Fr} {S : St} (hi : Nat.beq i id = false) (h : Q (.exit i) fr S) : blockK id Q (.exit i) fr S := by simp only [blockK, hi]; exact h
theorem blockK_ret {id : Nat} {Q : ExQ} {fr : Fr} {S : St} (h : Q .ret fr S) : blockK id Q .ret fr S := h
theorem blockK_panic {id : Nat} {Q : ExQ} {fr : Fr} {S : St} {ch : List VPan} (h : Q (.panic ch) fr S) : blockK id Q (.panic ch) fr S := h
theorem onBool_of {x : VV} {b : Bool} {A B : Prop} (hx : x = .bool b) (ht : b = true → A) (hf : b = false → B) : onBool x A B := by
  subst hx
  cases b
  · exact hf rfl
  · exact ht rfl
theorem onBool_true {x : VV} {A B : Prop} (hx : x = .bool true) (h : A) : onBool x A B := by subst hx; exact h
theorem onBool_false {x : VV} {A B : Prop} (hx : x = .bool false) (h : B) : onBool x A B := by subst hx; exact h

end Go.Vm

/-
  A logic over the virtual states (3): rewriting rules that walk a piece of code. Nothing of any one program.
-/
namespace Go.Vm
variable {P : Program} {ov : Ov}

/- frames -/
@[go_sem] theorem ev_tmp (t : Tr VV) (n : Nat) (ds : List VDef) (rc : Option (List VPan)) (G d : Nat) : (Fr.mk t n ds rc).ev G (.tmp d) = (t.get d).getD .any := by
  simp only [Fr.ev, evO]; cases t.get d <;> rfl
@[go_sem] theorem ev_const (fr : Fr) (G : Nat) (v : Value) : fr.ev G (.const v) = VV.ofValue v := rfl
@[go_sem] theorem ev_func (fr : Fr) (G : Nat) (f : FuncId) : fr.ev G (.func f) = .func (.func f) [] [] := rfl
@[go_sem] theorem ofValue_bool (b : Bool) : VV.ofValue (.bool b) = .bool b := rfl
@[go_sem] theorem ofValue_int (k : IntKind) (n : Int) : VV.ofValue (.int k n) = .int k n := rfl
@[go_sem] theorem ofValue_string (s : ByteArray) : VV.ofValue (.string s) = .str s.data.toList := rfl
@[go_sem] theorem ofValue_nilPtr : VV.ofValue (.pointer none) = .ptr none := rfl
@[go_sem] theorem ofValue_nilSlice (n c : Nat) : VV.ofValue (.slice none n c) = .slice none n (.just c) := rfl
@[go_sem] theorem ofValue_nilMap : VV.ofValue (.map none) = .map none := rfl
@[go_sem] theorem ofValue_nilFunc : VV.ofValue .nilFunc = .nilFunc := rfl
@[go_sem] theorem ofValue_nilIface : VV.ofValue .nilIface = .nilIface := rfl
@[go_sem] theorem ofValue_agg (cs : List Value) : VV.ofValue (.agg ⟨cs⟩) = .agg (VV.ofValues cs) := rfl
@[go_sem] theorem ofValues_nil : VV.ofValues [] = [] := rfl
@[go_sem] theorem ofValues_cons (v : Value) (l : List Value) : VV.ofValues (v :: l) = VV.ofValue v :: VV.ofValues l := rfl

@[go_sem] theorem tr_get_set {α : Type} (t : Tr α) (k j : Nat) (a : α) : (t.set k a).get j = if j = k then some a else t.get j := Tr.get_set t k j a
@[go_sem] theorem tr_get_nil {α : Type} (k : Nat) : (Tr.nil : Tr α).get k = none := rfl
@[go_sem] theorem tr_row_one {α : Type} (t : Tr α) (i : Nat) : t.row i 1 = (t.get i).map fun a => [a] := by
  simp only [Tr.row]; cases t.get i <;> rfl
@[go_sem] theorem tr_row_zero {α : Type} (t : Tr α) (i : Nat) : t.row i 0 = some [] := rfl
@[go_sem] theorem tr_setAll_nil {α : Type} (t : Tr α) (i : Nat) : t.setAll i [] = t := rfl
@[go_sem] theorem tr_setAll_cons {α : Type} (t : Tr α) (i : Nat) (a : α) (l : List α) : t.setAll i (a :: l) = (t.set i a).setAll (i + 1) l := by simp [Tr.setAll]
@[go_sem] theorem tr_with {α β : Type} (t : Tr α) (c : Tr α → β) : t.with_ c = c t := Tr.with_eq t c

/-- the slots of a frame, put -/
@[go_sem] theorem put_none (fr : Fr) (v : VV) : fr.put none v = some fr := rfl
@[go_sem] theorem put_some (t : Tr VV) (n : Nat) (ds : List VDef) (rc : Option (List VPan)) (d : Nat) (v : VV) : (Fr.mk t n ds rc).put (some d) v = if d < n then some (Fr.mk (t.set d v) n ds rc) else none := by
  simp only [Fr.put, VV.strict_eq, Tr.with_eq]
  by_cases h : d < n
  · rw [if_pos h, show Nat.blt d n = true from by simpa [Nat.blt_eq] using h]
  · rw [if_neg h, show Nat.blt d n = false from by rw [Bool.eq_false_iff]; simpa [Nat.blt_eq] using h]

@[go_sem] theorem frameV_eq (fn : Func) (args : List VV) (rc : Option (List VPan)) : frameV fn args rc = Fr.mk (Tr.setAll .nil 0 args) (Nat.max fn.ntmps args.length) [] rc := rfl

/- regions -/
@[go_sem] theorem wpOpers_nil (fi : FI) (ops : Array Oper) (fr : Fr) (S : St) (Q : ExQ) : wpOpers P ov fi ops [] fr S Q = Q .normal fr S := rfl
@[go_sem] theorem wpOpers_cons (fi : FI) (ops : Array Oper) (dst : Option Tmp) (op : Op) (ty : TypeId) (pos : String) (after : Array Edge) (l : List Oper) (fr : Fr) (S : St) (Q : ExQ) :
    wpOpers P ov fi ops ({ dst := dst, op := op, type := ty, pos := pos, after := after, guard := none } :: l) fr S Q =
      wpOper P ov fi { dst := dst, op := op, type := ty, pos := pos, after := after, guard := none } fr S (fun fr S => wpOpers P ov fi ops l fr S Q) Q := rfl

@[go_sem] theorem wpOpers_guard (fi : FI) (ops : Array Oper) (dst : Option Tmp) (op : Op) (ty : TypeId) (pos : String) (after : Array Edge) (g : Nat × Bool) (l : List Oper) (fr : Fr) (S : St) (Q : ExQ) :
    wpOpers P ov fi ops ({ dst := dst, op := op, type := ty, pos := pos, after := after, guard := some g } :: l) fr S Q =
      match wantedV ops { dst := dst, op := op, type := ty, pos := pos, after := after, guard := some g } (fun d => fr.t.get d) with
      | some true => wpOper P ov fi { dst := dst, op := op, type := ty, pos := pos, after := after, guard := some g } fr S (fun fr S => wpOpers P ov fi ops l fr S Q) Q
      | some false => match fr.put dst undefV with
        | some fr1 => wpOpers P ov fi ops l fr1 S Q
        | none => False
      | none => False := rfl
@[go_sem] theorem wanted_guard (ops : List Oper) (dst : Option Tmp) (op : Op) (ty : TypeId) (pos : String) (after : Array Edge) (j : Nat) (want : Bool) (look : Tmp → Option VV) :
    wantedV ⟨ops⟩ { dst := dst, op := op, type := ty, pos := pos, after := after, guard := some (j, want) } look = match (ops[j]?).bind (·.dst) with
      | some d => match look d with
        | some (.bool b) => some (b == want)
        | some .any => none
        | some _ => some false
        | none => none
      | none => some false := by
  simp only [wantedV, List.getElem?_toArray]
  cases ops[j]? with
  | none => rfl
  | some g => simp only [Option.bind_some]; cases g.dst <;> rfl

/-- a plain operation's end -/
def thenK (x : Option (VV × St)) (dst : Option Tmp) (fr : Fr) (K : Fr → St → Prop) : Prop :=
  match x with
  | some (v, S1) => match fr.put dst v with
    | some fr1 => K fr1 S1
    | none => False
  | none => False

@[go_sem] theorem thenK_some (v : VV) (S1 : St) (dst : Option Tmp) (fr : Fr) (K : Fr → St → Prop) : thenK (some (v, S1)) dst fr K = match fr.put dst v with
    | some fr1 => K fr1 S1
    | none => False := rfl
theorem thenK_none (dst : Option Tmp) (fr : Fr) (K : Fr → St → Prop) : thenK none dst fr K = False := rfl

variable (fi : FI) (dst : Option Tmp) (ty : TypeId) (pos : String) (after : Array Edge) (gd : Option (Nat × Bool)) (fr : Fr) (S : St) (K : Fr → St → Prop) (Q : ExQ)
@[go_sem] theorem w_move (x : Operand) : wpOper P ov fi ⟨dst, .move x, ty, pos, after, gd⟩ fr S K Q = thenK (some (fr.ev P.globals.size x, S)) dst fr K := rfl
@[go_sem] theorem w_assign (x : Operand) : wpOper P ov fi ⟨dst, .assign x, ty, pos, after, gd⟩ fr S K Q = thenK (some (fr.ev P.globals.size x, S)) dst fr K := rfl
@[go_sem] theorem w_alloc (t : TypeId) : wpOper P ov fi ⟨dst, .alloc t, ty, pos, after, gd⟩ fr S K Q = thenK (allocV P S t) dst fr K := rfl
@[go_sem] theorem w_box (t : TypeId) (x : Operand) : wpOper P ov fi ⟨dst, .box t x, ty, pos, after, gd⟩ fr S K Q = thenK (boxV S t (fr.ev P.globals.size x)) dst fr K := rfl
@[go_sem] theorem w_build (t : TypeId) (ps : List (Nat × Operand)) : wpOper P ov fi ⟨dst, .build t ⟨ps⟩, ty, pos, after, gd⟩ fr S K Q = thenK (optV (buildV P t (ps.map fun (i, x) => (i, fr.ev P.globals.size x))) S) dst fr K := rfl
@[go_sem] theorem w_load (t : TypeId) (x : Operand) : wpOper P ov fi ⟨dst, .load t x, ty, pos, after, gd⟩ fr S K Q = thenK (match fr.ev P.globals.size x with
    | .ptr (some (id, off)) => optV (loadVarV P S t id off) S
    | _ => none) dst fr K := rfl
@[go_sem] theorem w_store (t : TypeId) (x y : Operand) : wpOper P ov fi ⟨dst, .store t x y, ty, pos, after, gd⟩ fr S K Q = thenK (storeVarV P S t (fr.ev P.globals.size x) (fr.ev P.globals.size y)) dst fr K := rfl
@[go_sem] theorem w_nilCheck (x : Operand) : wpOper P ov fi ⟨dst, .nilCheck x, ty, pos, after, gd⟩ fr S K Q = thenK (optV (nilCheckV (fr.ev P.globals.size x)) S) dst fr K := rfl
@[go_sem] theorem w_binOp (op : BinOp) (t : TypeId) (x y : Operand) (u : TypeId) : wpOper P ov fi ⟨dst, .binOp op t x y u, ty, pos, after, gd⟩ fr S K Q = thenK (optV (binV P S op t x y (fr.ev P.globals.size x) (fr.ev P.globals.size y)) S) dst fr K := rfl
@[go_sem] theorem w_unOp (op : UnOp) (t : TypeId) (x : Operand) : wpOper P ov fi ⟨dst, .unOp op t x, ty, pos, after, gd⟩ fr S K Q = thenK (optV (unV op (fr.ev P.globals.size x)) S) dst fr K := rfl
@[go_sem] theorem w_convert (a b : TypeId) (x : Operand) : wpOper P ov fi ⟨dst, .convert a b x, ty, pos, after, gd⟩ fr S K Q = thenK (convertV P S a b (fr.ev P.globals.size x)) dst fr K := rfl
@[go_sem] theorem w_makeInterface (t : TypeId) (x : Operand) : wpOper P ov fi ⟨dst, .makeInterface t x, ty, pos, after, gd⟩ fr S K Q = thenK (optV (makeInterfaceV P t (fr.ev P.globals.size x)) S) dst fr K := rfl
@[go_sem] theorem w_makeFunc (f : FuncId) (a b : List Operand) : wpOper P ov fi ⟨dst, .makeFunc (.func f) ⟨a⟩ ⟨b⟩, ty, pos, after, gd⟩ fr S K Q = thenK (some (.func (.func f) (a.map (fr.ev P.globals.size)) (b.map (fr.ev P.globals.size)), S)) dst fr K := rfl
@[go_sem] theorem w_makeMap (t : TypeId) (x : Option Operand) : wpOper P ov fi ⟨dst, .makeMap t x, ty, pos, after, gd⟩ fr S K Q = thenK (makeMapV P S t (x.map (fr.ev P.globals.size))) dst fr K := rfl
@[go_sem] theorem w_makeSlice (t : TypeId) (x y : Operand) : wpOper P ov fi ⟨dst, .makeSlice t x y, ty, pos, after, gd⟩ fr S K Q = thenK (makeSliceV P S t (fr.ev P.globals.size x) (fr.ev P.globals.size y)) dst fr K := rfl
@[go_sem] theorem w_slice (t : TypeId) (x : Operand) (a b c : Option Operand) : wpOper P ov fi ⟨dst, .slice t x a b c, ty, pos, after, gd⟩ fr S K Q = thenK (optV (sliceV P t (fr.ev P.globals.size x) (a.map (fr.ev P.globals.size)) (b.map (fr.ev P.globals.size)) (c.map (fr.ev P.globals.size))) S) dst fr K := rfl
@[go_sem] theorem w_fieldAddr (t : TypeId) (x : Operand) (i : Nat) : wpOper P ov fi ⟨dst, .fieldAddr t x i, ty, pos, after, gd⟩ fr S K Q = thenK (optV (fieldAddrV P t (fr.ev P.globals.size x) i) S) dst fr K := rfl
@[go_sem] theorem w_field (t : TypeId) (x : Operand) (i : Nat) : wpOper P ov fi ⟨dst, .field t x i, ty, pos, after, gd⟩ fr S K Q = thenK (optV (fieldV P t (fr.ev P.globals.size x) i) S) dst fr K := rfl
@[go_sem] theorem w_indexAddr (t : TypeId) (x i : Operand) : wpOper P ov fi ⟨dst, .indexAddr t x i, ty, pos, after, gd⟩ fr S K Q = thenK (optV (indexAddrV P t (fr.ev P.globals.size x) (fr.ev P.globals.size i)) S) dst fr K := rfl
@[go_sem] theorem w_index (t : TypeId) (x i : Operand) : wpOper P ov fi ⟨dst, .index t x i, ty, pos, after, gd⟩ fr S K Q = thenK (optV (indexV P t (fr.ev P.globals.size x) (fr.ev P.globals.size i)) S) dst fr K := rfl
@[go_sem] theorem w_lookup (t : TypeId) (x i : Operand) (ok : Bool) : wpOper P ov fi ⟨dst, .lookup t x i ok, ty, pos, after, gd⟩ fr S K Q = thenK (optV (lookupV P S t (fr.ev P.globals.size x) (fr.ev P.globals.size i) ok) S) dst fr K := rfl
@[go_sem] theorem w_mapUpdate (t : TypeId) (x i y : Operand) : wpOper P ov fi ⟨dst, .mapUpdate t x i y, ty, pos, after, gd⟩ fr S K Q = thenK (mapSetV P S t (fr.ev P.globals.size x) (fr.ev P.globals.size i) (fr.ev P.globals.size y)) dst fr K := rfl
@[go_sem] theorem w_range (t : TypeId) (x : Operand) : wpOper P ov fi ⟨dst, .range t x, ty, pos, after, gd⟩ fr S K Q = thenK (rangeV P S t (fr.ev P.globals.size x)) dst fr K := rfl
@[go_sem] theorem w_entry (x : Operand) : wpOper P ov fi ⟨dst, .entry x, ty, pos, after, gd⟩ fr S K Q = thenK (optV (entryV S (fr.ev P.globals.size x)) S) dst fr K := rfl
@[go_sem] theorem w_typeAssert (x : Operand) (a b : TypeId) (ok : Bool) : wpOper P ov fi ⟨dst, .typeAssert x a b ok, ty, pos, after, gd⟩ fr S K Q = thenK (optV (typeAssertV P (fr.ev P.globals.size x) b ok) S) dst fr K := rfl
@[go_sem] theorem w_extract (x : Operand) (i : Nat) : wpOper P ov fi ⟨dst, .extract x i, ty, pos, after, gd⟩ fr S K Q = thenK (optV (extractV (fr.ev P.globals.size x) i) S) dst fr K := rfl
@[go_sem] theorem w_next (x : Operand) (s : Bool) : wpOper P ov fi ⟨dst, .next x s, ty, pos, after, gd⟩ fr S K Q = match nextV S (fr.ev P.globals.size x) s with
    | some l => ∀ v S1, (v, S1) ∈ l → ∃ fr1, fr.put dst v = some fr1 ∧ K fr1 S1
    | none => False := rfl
@[go_sem] theorem w_panic (x : Operand) : wpOper P ov fi ⟨dst, .panic x, ty, pos, after, gd⟩ fr S K Q = match panicV (fr.ev P.globals.size x) with
    | some ch => Q (.panic ch) fr S
    | none => False := rfl

@[go_sem] theorem w_pick (c a b : Operand) : wpOper P ov fi ⟨dst, .pick c a b, ty, pos, after, gd⟩ fr S K Q = thenK (match fr.ev P.globals.size c with
    | .bool true => some (fr.ev P.globals.size a, S)
    | .bool false => some (fr.ev P.globals.size b, S)
    | _ => none) dst fr K := rfl
@[go_sem] theorem w_buildSlice (t n : Nat) (ps : List (Nat × Operand)) : wpOper P ov fi ⟨dst, .buildSlice t n ⟨ps⟩, ty, pos, after, gd⟩ fr S K Q = thenK (buildSliceV P S t n (ps.map fun (i, x) => (i, fr.ev P.globals.size x))) dst fr K := rfl
@[go_sem] theorem w_call (f : Operand) (args : Array Operand) (ts : Array TypeId) : wpOper P ov fi ⟨dst, .call ⟨.value f, args, ts⟩, ty, pos, after, gd⟩ fr S K Q = wpCall P ov ⟨dst, .call ⟨.value f, args, ts⟩, ty, pos, after, gd⟩ fr S K Q (calleeV (fr.ev P.globals.size) ⟨.value f, args, ts⟩) := rfl
@[go_sem] theorem calleeV_value (e : Operand → VV) (f : Operand) (args : List Operand) (ts : Array TypeId) : calleeV e ⟨.value f, ⟨args⟩, ts⟩ = match e f with
    | .func fn first captured => if yieldOk fn captured = true then some (fn, first ++ (args.map e) ++ captured) else none
    | _ => none := by
  simp only [calleeV]
  cases e f with
  | func fn first captured => simp only []; cases yieldOk fn captured <;> rfl
  | _ => rfl
@[go_sem] theorem yieldOk_func (f : FuncId) (c : List VV) : yieldOk (.func f) c = true := rfl
@[go_sem] theorem yieldOk_yield (l : Nat) : yieldOk (.yield l) [] = true := rfl
@[go_sem] theorem wpCall_ov (o : Oper) (f : FuncId) (args : List VV) : wpCall P ov o fr S K Q (some (.func f, args)) = match ov f with
    | some g => match g args S with
      | some (e, S1) => wpEnd o fr K Q e S1
      | none => False
    | none => FunT P f args S fun e S1 => wpEnd o fr K Q e S1 := rfl
@[go_sem] theorem wpEnd_returned (dst : Option Tmp) (op : Op) (v : VV) (S1 : St) : wpEnd ⟨dst, op, ty, pos, after, gd⟩ fr K Q (.returned v) S1 = match fr.put dst v with
    | some fr1 => K fr1 S1
    | none => False := rfl
@[go_sem] theorem wpEnd_panicked (o : Oper) (ch : List VPan) (S1 : St) : wpEnd o fr K Q (.panicked ch) S1 = Q (.panic ch) fr S1 := rfl
@[go_sem] theorem w_len (args : List Operand) (ts : List TypeId) : wpOper P ov fi ⟨dst, .call ⟨.builtin .len, ⟨args⟩, ⟨ts⟩⟩, ty, pos, after, gd⟩ fr S K Q = thenK (optV (lenV P S ts (args.map (fr.ev P.globals.size))) S) dst fr K := by
  show thenK (builtinV P S .len ts (args.map (fr.ev P.globals.size))) dst fr K = _
  simp only [builtinV]; cases lenV P S ts (args.map (fr.ev P.globals.size)) <;> rfl
@[go_sem] theorem w_append (args : List Operand) (ts : List TypeId) : wpOper P ov fi ⟨dst, .call ⟨.builtin .append, ⟨args⟩, ⟨ts⟩⟩, ty, pos, after, gd⟩ fr S K Q = thenK (appendV P S ts (args.map (fr.ev P.globals.size))) dst fr K := rfl
@[go_sem] theorem w_copy (args : List Operand) (ts : List TypeId) : wpOper P ov fi ⟨dst, .call ⟨.builtin .copy, ⟨args⟩, ⟨ts⟩⟩, ty, pos, after, gd⟩ fr S K Q = thenK (copyV P S ts (args.map (fr.ev P.globals.size))) dst fr K := rfl
@[go_sem] theorem w_min (args : List Operand) (ts : List TypeId) : wpOper P ov fi ⟨dst, .call ⟨.builtin .min, ⟨args⟩, ⟨ts⟩⟩, ty, pos, after, gd⟩ fr S K Q = thenK (builtinV P S .min ts (args.map (fr.ev P.globals.size))) dst fr K := rfl
@[go_sem] theorem w_max (args : List Operand) (ts : List TypeId) : wpOper P ov fi ⟨dst, .call ⟨.builtin .max, ⟨args⟩, ⟨ts⟩⟩, ty, pos, after, gd⟩ fr S K Q = thenK (builtinV P S .max ts (args.map (fr.ev P.globals.size))) dst fr K := rfl
@[go_sem] theorem w_delete (args : List Operand) (ts : List TypeId) : wpOper P ov fi ⟨dst, .call ⟨.builtin .delete, ⟨args⟩, ⟨ts⟩⟩, ty, pos, after, gd⟩ fr S K Q = thenK (builtinV P S .delete ts (args.map (fr.ev P.globals.size))) dst fr K := rfl

@[go_sem] theorem optV_of_some (v : VV) (S : St) : optV (some v) S = some (v, S) := rfl
@[go_sem] theorem nilCheckV_ptr (a : Nat × Nat) : nilCheckV (.ptr (some a)) = some (.ptr (some a)) := rfl
@[go_sem] theorem extractV_tuple (vs : List VV) (i : Nat) : extractV (.tuple vs) i = vs[i]? := rfl
@[go_sem] theorem cellsV_agg (cs : List VV) : cellsV (.agg cs) = some cs := rfl
@[go_sem] theorem cellsV_int (k : IntKind) (n : Int) : cellsV (.int k n) = some [.int k n] := rfl
@[go_sem] theorem cellsV_bool (b : Bool) : cellsV (.bool b) = some [.bool b] := rfl
@[go_sem] theorem cellsV_str (s : List UInt8) : cellsV (.str s) = some [.str s] := rfl
@[go_sem] theorem cellsV_ptr (a : Option (Nat × Nat)) : cellsV (.ptr a) = some [.ptr a] := rfl
@[go_sem] theorem cellsV_map (a : Option Nat) : cellsV (.map a) = some [.map a] := rfl
@[go_sem] theorem cellsV_slice (a : Option (Nat × Nat)) (n : Nat) (c : Cap) : cellsV (.slice a n c) = some [.slice a n c] := rfl
@[go_sem] theorem cellsV_func (f : Fn) (a b : List VV) : cellsV (.func f a b) = some [.func f a b] := rfl
@[go_sem] theorem cellsV_iface (t : TypeId) (v : VV) : cellsV (.iface t v) = some [.iface t v] := rfl
@[go_sem] theorem cellsV_nilIface : cellsV .nilIface = some [.nilIface] := rfl
@[go_sem] theorem allOne_nil : allOne [] = true := rfl
@[go_sem] theorem allOne_cons (v : VV) (l : List VV) : allOne (v :: l) = (v.one && allOne l) := by simp only [allOne]; cases v.one <;> rfl
@[go_sem] theorem one_int (k : IntKind) (n : Int) : (VV.int k n).one = true := rfl
@[go_sem] theorem one_bool (b : Bool) : (VV.bool b).one = true := rfl
@[go_sem] theorem one_str (s : List UInt8) : (VV.str s).one = true := rfl
@[go_sem] theorem one_ptr (a : Option (Nat × Nat)) : (VV.ptr a).one = true := rfl
@[go_sem] theorem one_map (a : Option Nat) : (VV.map a).one = true := rfl
@[go_sem] theorem one_slice (a : Option (Nat × Nat)) (n : Nat) (c : Cap) : (VV.slice a n c).one = true := rfl
@[go_sem] theorem one_func (f : Fn) (a b : List VV) : (VV.func f a b).one = true := rfl
@[go_sem] theorem one_iface (t : TypeId) (v : VV) : (VV.iface t v).one = true := rfl
@[go_sem] theorem one_nilIface : (VV.nilIface).one = true := rfl

@[go_sem] theorem newRowV_eq (S : St) (cs : List VV) (n : Nat) (t : TypeId) (m : Bool) : newRowV S cs n t m = if allOne cs = true then some (S.nx, { h := S.h.set S.nx (.cells (Tr.ofList cs) n t false m), nx := S.nx + 1 }) else none := by
  simp only [newRowV, Tr.with_eq]; cases allOne cs <;> rfl
@[go_sem] theorem boxV_eq (S : St) (t : TypeId) (v : VV) : boxV S t v = match cellsV v with
    | some cs => match newRowV S cs cs.length t false with
      | some (r, S) => some (.ptr (some (r, 0)), S)
      | none => none
    | none => none := rfl
@[go_sem] theorem allocV_eq (S : St) (t : TypeId) : allocV P S t = match zeroV P t with
    | some z => boxV S t z
    | none => none := rfl

@[go_sem] theorem intOpV_add (k : IntKind) (a b : Int) : intOpV .add k a b = some (.int k (k.wrap (a + b))) := rfl
@[go_sem] theorem intOpV_sub (k : IntKind) (a b : Int) : intOpV .sub k a b = some (.int k (k.wrap (a - b))) := rfl
@[go_sem] theorem intOpV_eql (k : IntKind) (a b : Int) : intOpV .eql k a b = some (.bool (a == b)) := rfl
@[go_sem] theorem intOpV_neq (k : IntKind) (a b : Int) : intOpV .neq k a b = some (.bool (a != b)) := rfl
@[go_sem] theorem intOpV_lss (k : IntKind) (a b : Int) : intOpV .lss k a b = some (.bool (decide (a < b))) := rfl
@[go_sem] theorem intOpV_leq (k : IntKind) (a b : Int) : intOpV .leq k a b = some (.bool (decide (a ≤ b))) := rfl
@[go_sem] theorem intOpV_gtr (k : IntKind) (a b : Int) : intOpV .gtr k a b = some (.bool (decide (a > b))) := rfl
@[go_sem] theorem intOpV_geq (k : IntKind) (a b : Int) : intOpV .geq k a b = some (.bool (decide (a ≥ b))) := rfl

@[go_sem] theorem loadVarV_one {P : Program} {t : TypeId} (h : isAggV P t = some false) (S : St) (id off : Nat) : loadVarV P S t id off = (match S.h.get id with
    | some (.cells c _ _ _ _) => c.get off
    | _ => none) := by
  simp only [loadVarV, h, loadV]
  cases S.h.get id with
  | none => rfl
  | some o => cases o <;> first | rfl | (simp only [tr_row_one]; rename_i c _ _ _ _; cases c.get off <;> rfl)
@[go_sem] theorem loadVarV_agg {P : Program} {t : TypeId} {n : Nat} (h : isAggV P t = some true) (hn : sizeV P t = some n) (S : St) (id off : Nat) : loadVarV P S t id off = (match S.h.get id with
    | some (.cells c _ _ _ _) => (c.row off n).map .agg
    | _ => none) := by
  simp only [loadVarV, h, hn, loadV]
  cases S.h.get id with
  | none => rfl
  | some o => cases o <;> first | rfl | (simp only []; rename_i c _ _ _ _; cases c.row off n <;> rfl)
@[go_sem] theorem storeVarV_eq {P : Program} {t : TypeId} {n : Nat} (hn : sizeV P t = some n) (S : St) (id off : Nat) (v : VV) : storeVarV P S t (.ptr (some (id, off))) v = (match cellsV v with
    | some cs => if cs.length = n then (match storeV S id off cs with
      | some S => some (undefV, S)
      | none => none) else none
    | none => none) := by
  simp only [storeVarV, hn]
  cases cellsV v <;> rfl
@[go_sem] theorem storeV_cons (S : St) (id off : Nat) (v : VV) (vs : List VV) : storeV S id off (v :: vs) = if allOne (v :: vs) = true then (match S.h.get id with
    | some (.cells c n t false m) => if off + (vs.length + 1) ≤ n then some { S with h := S.h.set id (.cells (c.setAll off (v :: vs)) n t false m) } else none
    | _ => none) else none := by
  simp only [storeV]
  cases allOne (v :: vs) with
  | false => rfl
  | true =>
    simp only [if_true]
    cases S.h.get id with
    | none => rfl
    | some o =>
      cases o with
      | cells c n t ro m =>
        cases ro with
        | true => rfl
        | false =>
          simp only [Tr.with_eq, List.length_cons]
          by_cases h : off + (vs.length + 1) ≤ n
          · rw [if_pos h, show Nat.ble (off + (vs.length + 1)) n = true from by simpa [Nat.ble_eq] using h]
          · rw [if_neg h, show Nat.ble (off + (vs.length + 1)) n = false from by rw [Bool.eq_false_iff]; simpa [Nat.ble_eq] using h]
      | _ => rfl

/-- a region is walked -/
theorem walk {P : Program} {ov : Ov} {fi : FI} {ops : Array Oper} {l : List Oper} {fr fr' : Fr} {S S' : St} {Q0 : ExQ} (h : ∀ Q : ExQ, wpOpers P ov fi ops l fr S Q = Q .normal fr' S') (hq : Q0 .normal fr' S') : wpOpers P ov fi ops l fr S Q0 := by
  rw [h Q0]; exact hq

theorem walk_next {P : Program} {ov : Ov} {fi : FI} {ops : Array Oper} {dst : Option Tmp} {x : Operand} {s : Bool} {ty : TypeId} {pos : String} {after : Array Edge} {l : List Oper} {fr : Fr} {S : St} {Q : ExQ} {L : List (VV × St)}
    (hl : nextV S (fr.ev P.globals.size x) s = some L) (h : ∀ v S1, (v, S1) ∈ L → ∃ fr1, fr.put dst v = some fr1 ∧ wpOpers P ov fi ops l fr1 S1 Q) :
    wpOpers P ov fi ops ({ dst := dst, op := .next x s, type := ty, pos := pos, after := after, guard := none } :: l) fr S Q := by
  rw [wpOpers_cons, w_next, hl]; exact h

theorem walk_fun {P : Program} {ov : Ov} {fi : FI} {ops : Array Oper} {dst : Option Tmp} {c : Call} {ty : TypeId} {pos : String} {after : Array Edge} {l : List Oper} {fr : Fr} {S : St} {Q : ExQ} {f : FuncId} {args : List VV} {R : En → St → Prop}
    (hc : calleeV (fr.ev P.globals.size) c = some (.func f, args)) (hov : ov f = none) (hf : FunT P f args S R)
    (h : ∀ e S1, R e S1 → match e with
      | .returned v => ∃ fr1, fr.put dst v = some fr1 ∧ wpOpers P ov fi ops l fr1 S1 Q
      | .panicked ch => Q (.panic ch) fr S1) :
    wpOpers P ov fi ops ({ dst := dst, op := .call c, type := ty, pos := pos, after := after, guard := none } :: l) fr S Q := by
  rw [wpOpers_cons]
  unfold wpOper
  simp only []
  cases hcc : c.callee with
  | builtin b => simp [calleeV, hcc] at hc
  | value x =>
    simp only [wpCall, hc, hov]
    refine hf.mono fun e S1 q => ?_
    have := h e S1 q
    cases e with
    | returned v => obtain ⟨fr1, h1, h2⟩ := this; simp only [wpEnd, h1]; exact h2
    | panicked ch => exact this
  | invoke x m => simp [calleeV, hcc] at hc

theorem walk_yield {P : Program} {ov : Ov} {fi : FI} {ops : Array Oper} {dst : Option Tmp} {f : Operand} {as : Array Operand} {ts : Array TypeId} {ty : TypeId} {pos : String} {after : Array Edge} {l : List Oper} {fr : Fr} {S : St} {Q : ExQ} {lp : Nat} {args : List VV} {R : En → St → Prop}
    (hc : calleeV (fr.ev P.globals.size) ⟨.value f, as, ts⟩ = some (.yield lp, args)) (hf : RoundT P lp args S R)
    (h : ∀ e S1, R e S1 → match e with
      | .returned v => ∃ fr1, fr.put dst v = some fr1 ∧ wpOpers P ov fi ops l fr1 S1 Q
      | .panicked ch => Q (.panic ch) fr S1) :
    wpOpers P ov fi ops ({ dst := dst, op := .call ⟨.value f, as, ts⟩, type := ty, pos := pos, after := after, guard := none } :: l) fr S Q := by
  rw [wpOpers_cons, w_call, hc]
  refine hf.mono fun e S1 q => ?_
  have := h e S1 q
  cases e with
  | returned v => obtain ⟨fr1, h1, h2⟩ := this; simp only [wpEnd, h1]; exact h2
  | panicked ch => exact this

/-- a step of an iterator over a string -/
theorem nextV_str {S : St} {r pos : Nat} {s : List UInt8} (h1 : S.h.get r = some (.strIter s pos)) (h : pos < s.length) :
    nextV S (.ptr (some (r, 0))) true = some [(.tuple [.bool true, .int .i64 pos, .int .i32 (Utf8.decode ⟨s.toArray⟩ pos).1], { S with h := S.h.set r (.strIter s (pos + (Utf8.decode ⟨s.toArray⟩ pos).2)) })] := by
  simp [nextV, h1, h]
theorem nextV_str_end {S : St} {r pos : Nat} {s : List UInt8} (h1 : S.h.get r = some (.strIter s pos)) (h : ¬ pos < s.length) : nextV S (.ptr (some (r, 0))) true = some [(.tuple [.bool false], S)] := by
  simp [nextV, h1, h]

/-- a step of an iterator over a map -/
theorem nextV_map {S : St} {r m since last clock : Nat} {seen : List Nat} {es : List (VV × VV × Nat)} (h1 : S.h.get r = some (.mapIter (some m) since seen last)) (h2 : S.h.get m = some (.map es clock))
    (hne : (!seen.isEmpty && !es.isEmpty && es.all fun e => last ≤ e.2.2) = false) (hl : leftV seen es ≠ []) (hb : (leftV seen es).all (fun e => e.2.2 < since) = true) :
    nextV S (.ptr (some (r, 0))) false = some ((leftV seen es).map fun e => (.tuple [.bool true, e.1, e.2.1], { S with h := S.h.set r (.mapIter (some m) since (seen ++ [e.2.2]) clock) })) := by
  simp only [nextV, h1, h2, hne, Bool.false_eq_true, if_false]
  cases hh : leftV seen es with
  | nil => exact absurd hh hl
  | cons e l =>
    rw [hh] at hb
    simp only [hb, if_true]
theorem nextV_map_end {S : St} {r m since last clock : Nat} {seen : List Nat} {es : List (VV × VV × Nat)} (h1 : S.h.get r = some (.mapIter (some m) since seen last)) (h2 : S.h.get m = some (.map es clock))
    (hne : (!seen.isEmpty && !es.isEmpty && es.all fun e => last ≤ e.2.2) = false) (hl : leftV seen es = []) :
    nextV S (.ptr (some (r, 0))) false = some [(.tuple [.bool false], { S with h := S.h.del r })] := by
  simp only [nextV, h1, h2, hne, Bool.false_eq_true, if_false, hl]

theorem wrap_in {x : Int} (h1 : -9223372036854775808 ≤ x) (h2 : x ≤ 9223372036854775807) : IntKind.i64.wrap x = x := IntWalk.i64_in x ⟨h1, h2⟩
theorem wrap_wrap (x y : Int) : IntKind.i64.wrap (IntKind.i64.wrap x + y) = IntKind.i64.wrap (x + y) := by
  rw [IntKind.wrap_i64, IntKind.wrap_i64, IntKind.wrap_i64]; omega

theorem frIn_of {t t' : Tr VV} {n : Nat} {ds : List VDef} {rc : Option (List VPan)} (h : ∀ i v, t'.get i = some v → t.get i = some v) : FrIn ⟨t', n, ds, rc⟩ ⟨t, n, ds, rc⟩ := ⟨h, rfl, rfl, rfl⟩

theorem frIn_nil {t : Tr VV} {n : Nat} {ds : List VDef} {rc : Option (List VPan)} : FrIn ⟨.nil, n, ds, rc⟩ ⟨t, n, ds, rc⟩ := ⟨fun _ _ h => (by cases h), rfl, rfl, rfl⟩
theorem frIn_set {t t' : Tr VV} {n k : Nat} {v : VV} {ds : List VDef} {rc : Option (List VPan)} (h : FrIn ⟨t', n, ds, rc⟩ ⟨t, n, ds, rc⟩) (hk : t.get k = some v) : FrIn ⟨t'.set k v, n, ds, rc⟩ ⟨t, n, ds, rc⟩ :=
  ⟨fun i u hu => by
    rw [Tr.get_set] at hu
    split at hu
    · rename_i e; subst e; cases hu; exact hk
    · exact h.t i u hu, rfl, rfl, rfl⟩

theorem within_of {h h' : Tr VObj} {n n' : Nat} (hh : ∀ id o, h'.get id = some o → h.get id = some o) (hn : n ≤ n') : Within { h := h', nx := n' } { h := h, nx := n } := ⟨hh, hn⟩

end Go.Vm

/-
  A logic over the virtual states (4): regions that draw their order, walked in one order. Nothing of any one program.
-/
namespace Go.Vm
variable {P : Program} {ov : Ov} {S : St}

theorem optV_eq {x : Option VV} {v : VV} {S' : St} (h : optV x S = some (v, S')) : x = some v ∧ S' = S := by
  cases x with
  | none => cases h
  | some u => simp only [optV, Option.some.injEq, Prod.mk.injEq] at h; obtain ⟨rfl, rfl⟩ := h; exact ⟨rfl, rfl⟩

theorem map_congr_mem {α : Type} {e e' : Operand → VV} {l : List α} {g : α → Operand} (h : ∀ x ∈ l, e (g x) = e' (g x)) : l.map (fun x => e (g x)) = l.map (fun x => e' (g x)) := List.map_congr_left h

/-- an operation looks at its operands alone -/
theorem simpleV_congr {e e' : Operand → VV} {op : Op} (h : ∀ x ∈ op.operands, e x = e' x) : simpleV P e S op = simpleV P e' S op := by
  have omap : ∀ {y : Option Operand}, (∀ x, y = some x → e x = e' x) → y.map e = y.map e' := by
    intro y hy
    cases y with
    | none => rfl
    | some x => simp [hy x rfl]
  cases op <;> simp only [simpleV]
  case build t ps =>
    have : (ps.toList.map fun (x : Nat × Operand) => (x.1, e x.2)) = ps.toList.map fun (x : Nat × Operand) => (x.1, e' x.2) := List.map_congr_left fun x hx => by rw [h x.2 (by simp [Op.operands]; exact ⟨x.1, by simpa using hx⟩)]
    rw [this]
  case buildSlice t n ps =>
    have : (ps.toList.map fun (x : Nat × Operand) => (x.1, e x.2)) = ps.toList.map fun (x : Nat × Operand) => (x.1, e' x.2) := List.map_congr_left fun x hx => by rw [h x.2 (by simp [Op.operands]; exact ⟨x.1, by simpa using hx⟩)]
    rw [this]
  case makeFunc fn a b =>
    have h1 : a.toList.map e = a.toList.map e' := List.map_congr_left fun x hx => h x (by simp [Op.operands]; exact .inl (by simpa using hx))
    have h2 : b.toList.map e = b.toList.map e' := List.map_congr_left fun x hx => h x (by simp [Op.operands]; exact .inr (by simpa using hx))
    rw [h1, h2]
  case makeMap t r => rw [omap fun x hx => h x (by subst hx; simp [Op.operands])]
  case slice t x l hh m =>
    rw [h x (by simp [Op.operands]), omap (y := l) fun y hy => h y (by subst hy; simp [Op.operands]), omap (y := hh) fun y hy => h y (by subst hy; simp [Op.operands]), omap (y := m) fun y hy => h y (by subst hy; simp [Op.operands])]
  case call c =>
    cases hc : c.callee with
    | builtin b =>
      have : c.args.toList.map e = c.args.toList.map e' := List.map_congr_left fun x hx => h x (by simp only [Op.operands, Call.operands]; simp [hc]; simpa using hx)
      simp only [this]
    | _ => rfl
  all_goals (simp [Op.operands] at h; try simp only [h])

theorem calleeV_congr {e e' : Operand → VV} {c : Call} (h : ∀ x ∈ (Op.call c).operands, e x = e' x) : calleeV e c = calleeV e' c := by
  unfold calleeV
  cases hc : c.callee with
  | value f =>
    have h1 : e f = e' f := h f (by simp only [Op.operands, Call.operands]; simp [hc])
    have h2 : c.args.toList.map e = c.args.toList.map e' := List.map_congr_left fun x hx => h x (by simp only [Op.operands, Call.operands]; simp [hc]; exact .inr (by simpa using hx))
    simp only [h1, h2]
  | _ => rfl

/-- what touches no memory leaves it -/
theorem simpleV_quiet {e : Operand → VV} {op : Op} {v : VV} {S' : St} (hk : kindOf P op ≠ 2) (h : simpleV P e S op = some (v, S')) : S' = S := by
  cases op <;> simp only [simpleV, kindOf, kindV, ne_eq, not_true_eq_false, reduceCtorEq, Option.some.injEq, Prod.mk.injEq] at h hk
  case move x => exact h.2.symm
  case assign x => exact h.2.symm
  case pick c x y => split at h <;> simp only [Option.some.injEq, Prod.mk.injEq, reduceCtorEq] at h <;> exact h.2.symm
  case load t a =>
    split at h
    · exact (optV_eq h).2
    · cases h
  case makeFunc fn a b => split at h <;> simp only [Option.some.injEq, Prod.mk.injEq, reduceCtorEq] at h; exact h.2.symm
  case convert a b x =>
    split at hk
    · exact absurd rfl hk
    · rename_i val hns hu
      unfold convertV at h
      split at h
      · split at h <;> simp only [Option.some.injEq, Prod.mk.injEq, reduceCtorEq] at h <;> exact h.2.symm
      · split at h
        · simp only [Option.some.injEq, Prod.mk.injEq] at h; exact h.2.symm
        · rename_i h1; rw [hu] at h1; exact (hns _ (Option.some.inj h1)).elim
        · cases h
      · split at h
        · split at h
          · split at h <;> simp only [Option.some.injEq, Prod.mk.injEq, reduceCtorEq] at h; exact h.2.symm
          · cases h
        · cases h
      · split at h
        · split at h
          · split at h
            · split at h <;> simp only [Option.some.injEq, Prod.mk.injEq, reduceCtorEq] at h; exact h.2.symm
            · cases h
          · cases h
        · rename_i h1; rw [hu] at h1; exact (hns _ (Option.some.inj h1)).elim
        · cases h
      · cases h
    · exact absurd rfl hk
  case call c =>
    cases hc : c.callee with
    | builtin b =>
      simp only [hc] at h hk
      cases b <;> simp only [not_true_eq_false] at hk <;> simp only [builtinV] at h
      · split at h <;> simp only [Option.some.injEq, Prod.mk.injEq, reduceCtorEq] at h; exact h.2.symm
      · split at h <;> simp only [Option.some.injEq, Prod.mk.injEq, reduceCtorEq] at h; exact h.2.symm
      all_goals
        split at h
        · split at h <;> simp only [Option.some.injEq, Prod.mk.injEq, reduceCtorEq] at h; exact h.2.symm
        · cases h
    | _ => simp [hc] at h
  all_goals exact (optV_eq h).2

end Go.Vm

/-
  A logic over the virtual states (5): regions that draw their order, by an order of ours. Nothing of any one program.
-/
namespace Go.Vm
variable {P : Program} {ov : Ov} {r : Rec} {ops : Array Oper} {fr : Fr} {S0 S : St}

/-- the operations of a region in an order of ours -/
inductive DrawRun (P : Program) (ov : Ov) (r : Rec) (ops : Array Oper) (fr : Fr) : List Nat → DrawSt → CodeR → Prop where
  | nil (s : DrawSt) : DrawRun P ov r ops fr [] s [(.normal, { fr with t := drawEnd ops.toList s.vals fr.t 0 }, s.S)]
  | skip {i : Nat} {l : List Nat} {s : DrawSt} {L : CodeR} {o : Oper} (ho : ops[i]? = some o) (hw : wantedV ops o (fun d => drawLook ops (Region.before ops) fr s.vals i d) = some false)
      (h : DrawRun P ov r ops fr l { s with vals := s.vals.set i undefV } L) : DrawRun P ov r ops fr (i :: l) s L
  | eff {i : Nat} {l : List Nat} {s : DrawSt} {L : CodeR} {o : Oper} {v : VV} {S' : St} (ho : ops[i]? = some o) (hw : wantedV ops o (fun d => drawLook ops (Region.before ops) fr s.vals i d) = some true) (hk : kindOf P o.op = 2)
      (hef : effectV P ov r (drawEv P.globals.size ops (Region.before ops) fr s.vals i) o.op s.S = some (.returned v, S'))
      (hrd : ∀ q u, (q, u) ∈ s.reads → freeV (Region.before ops) q i = true → ∃ o, ops[q]? = some o ∧ ∃ S'', simpleV P (drawEv P.globals.size ops (Region.before ops) fr s.vals q) S' o.op = some (u, S''))
      (h : DrawRun P ov r ops fr l { vals := s.vals.set i v, S := S', done := (i, s.S, S') :: s.done, reads := s.reads } L) : DrawRun P ov r ops fr (i :: l) s L
  | pan {i : Nat} {l : List Nat} {s : DrawSt} {o : Oper} {ch : List VPan} {S' : St} (ho : ops[i]? = some o) (hw : wantedV ops o (fun d => drawLook ops (Region.before ops) fr s.vals i d) = some true) (hk : kindOf P o.op = 2)
      (hef : effectV P ov r (drawEv P.globals.size ops (Region.before ops) fr s.vals i) o.op s.S = some (.panicked ch, S')) (hl : l.all (befB (Region.before ops) i) = true) :
      DrawRun P ov r ops fr (i :: l) s [(.panic ch, { fr with t := drawLost ops.toList fr.t }, S')]
  | read {i : Nat} {l : List Nat} {s : DrawSt} {L : CodeR} {o : Oper} {v : VV} {Sx : St} (ho : ops[i]? = some o) (hw : wantedV ops o (fun d => drawLook ops (Region.before ops) fr s.vals i d) = some true) (hk : kindOf P o.op ≠ 2)
      (hsv : simpleV P (drawEv P.globals.size ops (Region.before ops) fr s.vals i) s.S o.op = some (v, Sx))
      (hha : ∀ x ∈ s.done, freeV (Region.before ops) x.1 i = true → ∃ S'', simpleV P (drawEv P.globals.size ops (Region.before ops) fr s.vals i) x.2.1 o.op = some (v, S''))
      (h : DrawRun P ov r ops fr l { s with vals := s.vals.set i v, reads := (i, v) :: s.reads } L) : DrawRun P ov r ops fr (i :: l) s L

/-- one more effect: those that are free of it hold behind it -/
theorem Fact.more' {F F' : Nat → Option VV} {D : List (Nat × St × St)} {Rd : List (Nat × VV)} {i : Nat} {x : Nat × St × St} (hF : ∀ j v, F j = some v → F' j = some v) (hne : x.1 ≠ i)
    (hb : ¬ befB (Region.before ops) x.1 i = true)
    (hold : ∀ v, (i, v) ∈ Rd → freeV (Region.before ops) i x.1 = true → ∃ o vals, ops[i]? = some o ∧ ValsIn vals F ∧ ∃ S', simpleV P (drawEv P.globals.size ops (Region.before ops) fr vals i) x.2.2 o.op = some (v, S'))
    (h : Fact P ov r ops fr S0 F D Rd i) : Fact P ov r ops fr S0 F' (D ++ [x]) Rd i := by
  obtain ⟨o, vals, h1, h2, h3⟩ := h
  refine ⟨o, vals, h1, fun j v q => hF _ _ (h2 j v q), ?_⟩
  have hk : (∀ y ∈ D, y.1 ≠ i) → ∀ y ∈ D ++ [x], y.1 ≠ i := fun q y hy => by
    rcases List.mem_append.1 hy with hy | hy
    · exact q y hy
    · rw [List.mem_singleton.1 hy]; exact hne
  rcases h3 with ⟨a, b, c⟩ | ⟨a, b, v, S1, S2, c, d, e⟩ | ⟨a, b, c, v, d, e, f⟩
  · exact .inl ⟨a, hF _ _ b, hk c⟩
  · exact .inr (.inl ⟨a, b, v, S1, S2, List.mem_append_left _ c, d, hF _ _ e⟩)
  · refine .inr (.inr ⟨a, b, hk c, v, hF _ _ d, e, fun D1 D2 q1 q2 q3 => ?_⟩)
    rcases List.eq_nil_or_concat D2 with rfl | ⟨D2', y, rfl⟩
    · rw [List.append_nil] at q1
      subst q1
      have h4 := q2 x (by simp)
      obtain ⟨o', vals', x1, x2, x3⟩ := hold v e (by simp [freeV, h4, hb])
      rw [h1] at x1
      cases x1
      rw [endOf_snoc]
      exact ⟨vals', fun j v q => hF _ _ (x2 j v q), x3⟩
    · rw [List.concat_eq_append, ← List.append_assoc] at q1
      obtain ⟨rfl, q5⟩ := List.append_inj' q1 rfl
      obtain ⟨vals', x1, x2⟩ := f D1 D2' rfl q2 fun z hz => q3 z (by simp [hz])
      exact ⟨vals', fun j v q => hF _ _ (x1 j v q), x2⟩


theorem drawRun_canon (hok : DrawOk P ops) {l0 : List Nat} {s0 : DrawSt} {L : CodeR} (h0 : DrawRun P ov r ops fr l0 s0 L) : ∀ (C : List Nat), Canon P ov r ops fr S0 C s0.vals.get s0.done.reverse s0.reads → endOf S0 s0.done.reverse = s0.S →
    (C ++ l0).Nodup → ((C ++ l0).Pairwise fun i j => ¬ befB (Region.before ops) j i = true) → ∃ C' F D Rd, Canon P ov r ops fr S0 C' F D Rd ∧ CanonEnd P ov r ops fr S0 (C ++ l0) C' F D L := by
  induction h0 with
  | nil s =>
    intro C hC he _ _
    exact ⟨C, s.vals.get, s.done.reverse, s.reads, hC, .inl ⟨by simp, s.vals, fun _ _ q => q, by rw [he]⟩⟩
  | @skip i l s L o ho hw h ih =>
    intro C hC he hnd hpw
    have hiC : i ∉ C := fun q => by
      have := (List.nodup_append.1 hnd).2.2 i q i (by simp)
      exact this rfl
    have hbC : ∀ j ∈ C, ¬ befB (Region.before ops) i j = true := fun j hj => (List.pairwise_append.1 hpw).2.2 j hj i (by simp)
    have hvi : s.vals.get i = none := by
      cases hq : s.vals.get i with
      | none => rfl
      | some v => exact absurd (hC.dom i v hq) hiC
    have grow : ∀ v j u, s.vals.get j = some u → (s.vals.set i v).get j = some u := fun v j u hj => by
      rw [Tr.get_set]
      by_cases e : j = i
      · subst e; rw [hvi] at hj; cases hj
      · rw [if_neg e]; exact hj
    have dom' : ∀ v j u, (s.vals.set i v).get j = some u → j ∈ C ++ [i] := fun v j u hj => by
      rw [Tr.get_set] at hj
      by_cases e : j = i
      · simp [e]
      · rw [if_neg e] at hj; simp [hC.dom j u hj]
    have hass : (C ++ [i]) ++ l = C ++ i :: l := by simp
    have hkeys : ∀ x ∈ s.done.reverse, x.1 ≠ i := fun x hx e => hiC (e ▸ hC.keys x hx)
    have := ih (C ++ [i]) ⟨fun x hx => by simp [hC.keys x hx], hC.chain, hC.ord, hC.kind, ?_, dom' _⟩ he (by rw [hass]; exact hnd) (by rw [hass]; exact hpw)
    · rw [hass] at this
      exact this
    · intro j hj
      rcases List.mem_append.1 hj with hj | hj
      · exact (hC.fact j hj).mono (grow _) fun _ q => q
      · rw [List.mem_singleton.1 hj]
        exact ⟨o, s.vals, ho, fun j u q => grow _ j u q, .inl ⟨hw, by simp, hkeys⟩⟩
  | @eff i l s L o v S' ho hw hk hef hrd h ih =>
    intro C hC he hnd hpw
    have hiC : i ∉ C := fun q => by
      have := (List.nodup_append.1 hnd).2.2 i q i (by simp)
      exact this rfl
    have hbC : ∀ j ∈ C, ¬ befB (Region.before ops) i j = true := fun j hj => (List.pairwise_append.1 hpw).2.2 j hj i (by simp)
    have hvi : s.vals.get i = none := by
      cases hq : s.vals.get i with
      | none => rfl
      | some v => exact absurd (hC.dom i v hq) hiC
    have grow : ∀ v j u, s.vals.get j = some u → (s.vals.set i v).get j = some u := fun v j u hj => by
      rw [Tr.get_set]
      by_cases e : j = i
      · subst e; rw [hvi] at hj; cases hj
      · rw [if_neg e]; exact hj
    have dom' : ∀ v j u, (s.vals.set i v).get j = some u → j ∈ C ++ [i] := fun v j u hj => by
      rw [Tr.get_set] at hj
      by_cases e : j = i
      · simp [e]
      · rw [if_neg e] at hj; simp [hC.dom j u hj]
    have hass : (C ++ [i]) ++ l = C ++ i :: l := by simp
    have hkeys : ∀ x ∈ s.done.reverse, x.1 ≠ i := fun x hx e => hiC (e ▸ hC.keys x hx)
    have := ih (C ++ [i]) ?_ (by simp) (by rw [hass]; exact hnd) (by rw [hass]; exact hpw)
    · rw [hass] at this
      exact this
    · refine ⟨?_, ?_, ?_, ?_, ?_, dom' _⟩
      · intro x hx
        rw [List.reverse_cons] at hx
        rcases List.mem_append.1 hx with hx | hx
        · simp [hC.keys x hx]
        · rw [List.mem_singleton.1 hx]; simp
      · intro D1 x D2 hD
        rw [List.reverse_cons] at hD
        rcases List.eq_nil_or_concat D2 with rfl | ⟨D2', y, rfl⟩
        · obtain ⟨q1, q2⟩ := List.append_inj' hD rfl
          simp only [List.cons.injEq, and_true] at q2
          rw [← q2, ← q1]
          exact he.symm
        · rw [List.concat_eq_append, ← List.cons_append, ← List.append_assoc] at hD
          obtain ⟨q1, q2⟩ := List.append_inj' hD rfl
          exact hC.chain D1 x D2' q1
      · rw [List.reverse_cons, List.pairwise_append]
        refine ⟨hC.ord, by simp, fun x hx y hy => ?_⟩
        rw [List.mem_singleton.1 hy]
        obtain ⟨ox, hox, hkx⟩ := hC.kind x hx
        rcases hok.total i o ho hk x.1 ox hox hkx with e | e | e
        · exact absurd e.symm (hkeys x hx)
        · exact e
        · exact absurd e (hbC x.1 (hC.keys x hx))
      · intro x hx
        rw [List.reverse_cons] at hx
        rcases List.mem_append.1 hx with hx | hx
        · exact hC.kind x hx
        · rw [List.mem_singleton.1 hx]; exact ⟨o, ho, hk⟩
      · intro j hj
        rw [List.reverse_cons]
        rcases List.mem_append.1 hj with hj | hj
        · refine (hC.fact j hj).more' (x := (i, s.S, S')) (grow _) (fun e => hiC (by rw [show i = j from e]; exact hj)) (hbC j hj) fun u hu hf => ?_
          obtain ⟨o', q1, q2⟩ := hrd j u hu hf
          exact ⟨o', s.vals, q1, fun _ _ q => q, q2⟩
        · rw [List.mem_singleton.1 hj]
          exact ⟨o, s.vals, ho, fun j u q => grow _ j u q, .inr (.inl ⟨hw, hk, v, s.S, S', by simp, hef, by simp⟩)⟩
  | @pan i l s o ch S' ho hw hk hef hl =>
    intro C hC he hnd hpw
    have hiC : i ∉ C := fun q => by
      have := (List.nodup_append.1 hnd).2.2 i q i (by simp)
      exact this rfl
    have hbC : ∀ j ∈ C, ¬ befB (Region.before ops) i j = true := fun j hj => (List.pairwise_append.1 hpw).2.2 j hj i (by simp)
    have hvi : s.vals.get i = none := by
      cases hq : s.vals.get i with
      | none => rfl
      | some v => exact absurd (hC.dom i v hq) hiC
    have grow : ∀ v j u, s.vals.get j = some u → (s.vals.set i v).get j = some u := fun v j u hj => by
      rw [Tr.get_set]
      by_cases e : j = i
      · subst e; rw [hvi] at hj; cases hj
      · rw [if_neg e]; exact hj
    have dom' : ∀ v j u, (s.vals.set i v).get j = some u → j ∈ C ++ [i] := fun v j u hj => by
      rw [Tr.get_set] at hj
      by_cases e : j = i
      · simp [e]
      · rw [if_neg e] at hj; simp [hC.dom j u hj]
    have hass : (C ++ [i]) ++ l = C ++ i :: l := by simp
    have hkeys : ∀ x ∈ s.done.reverse, x.1 ≠ i := fun x hx e => hiC (e ▸ hC.keys x hx)
    exact ⟨C, s.vals.get, s.done.reverse, s.reads, hC, .inr ⟨i, l, ch, S', o, s.vals, rfl, ho, fun _ _ q => q, hw, hk, by rw [he]; exact hef, fun j hj => List.all_eq_true.1 hl j hj, rfl⟩⟩
  | @read i l s L o v Sx ho hw hk hsv hha h ih =>
    intro C hC he hnd hpw
    have hiC : i ∉ C := fun q => by
      have := (List.nodup_append.1 hnd).2.2 i q i (by simp)
      exact this rfl
    have hbC : ∀ j ∈ C, ¬ befB (Region.before ops) i j = true := fun j hj => (List.pairwise_append.1 hpw).2.2 j hj i (by simp)
    have hvi : s.vals.get i = none := by
      cases hq : s.vals.get i with
      | none => rfl
      | some v => exact absurd (hC.dom i v hq) hiC
    have grow : ∀ v j u, s.vals.get j = some u → (s.vals.set i v).get j = some u := fun v j u hj => by
      rw [Tr.get_set]
      by_cases e : j = i
      · subst e; rw [hvi] at hj; cases hj
      · rw [if_neg e]; exact hj
    have dom' : ∀ v j u, (s.vals.set i v).get j = some u → j ∈ C ++ [i] := fun v j u hj => by
      rw [Tr.get_set] at hj
      by_cases e : j = i
      · simp [e]
      · rw [if_neg e] at hj; simp [hC.dom j u hj]
    have hass : (C ++ [i]) ++ l = C ++ i :: l := by simp
    have hkeys : ∀ x ∈ s.done.reverse, x.1 ≠ i := fun x hx e => hiC (e ▸ hC.keys x hx)
    have := ih (C ++ [i]) ⟨fun x hx => by simp [hC.keys x hx], hC.chain, hC.ord, hC.kind, ?_, dom' _⟩ he (by rw [hass]; exact hnd) (by rw [hass]; exact hpw)
    · rw [hass] at this
      exact this
    · intro j hj
      rcases List.mem_append.1 hj with hj | hj
      · exact (hC.fact j hj).mono (grow _) fun _ q => by simp [q]
      · rw [List.mem_singleton.1 hj]
        refine ⟨o, s.vals, ho, fun j u q => grow _ j u q, .inr (.inr ⟨hw, hk, hkeys, v, by simp, by simp, fun D1 D2 q1 q2 q3 => ⟨s.vals, fun j u q => grow _ j u q, ?_⟩⟩)⟩
        cases D2 with
        | nil =>
          rw [List.append_nil] at q1
          rw [← q1, he]
          exact ⟨Sx, hsv⟩
        | cons x D2 =>
          have hx : x ∈ s.done := by
            have : x ∈ s.done.reverse := by rw [show s.done.reverse = D1 ++ x :: D2 from q1]; simp
            simpa using this
          have hf : freeV (Region.before ops) x.1 i = true := by
            have a1 := q3 x (by simp)
            have a2 := hbC x.1 (hC.keys x (by simpa using hx))
            simp [freeV, a1, a2]
          rw [← hC.chain D1 x D2 q1]
          exact hha x hx hf

end Go.Vm

/-
  A logic over the virtual states (6): a region that draws its order, walked as plain text in an order of ours. Nothing of any one program.
-/
namespace Go.Vm
variable {P : Program} {ov : Ov} {ops : Array Oper} {S : St}

/-- all of S lies in S' -/
def Grows (S S' : St) : Prop := ∀ id o, S.h.get id = some o → S'.h.get id = some o

def monoOp : Op → Bool
  | .load .. => true
  | .call c => match c.callee with
    | .builtin .len => true
    | _ => false
  | .binOp op .. => op != .eql && op != .neq
  | _ => false

theorem loadVarV_mono {S S' : St} (hh : Grows S S') {t : TypeId} {id off : Nat} {v : VV} (h : loadVarV P S t id off = some v) : loadVarV P S' t id off = some v := by
  have key : ∀ n l, loadV S id off n = some l → loadV S' id off n = some l := by
    intro n l q
    unfold loadV at q ⊢
    cases ho : S.h.get id with
    | none => simp [ho] at q
    | some o => rw [ho] at q; rw [hh id o ho]; exact q
  unfold loadVarV at h ⊢
  cases hA : isAggV P t with
  | none => simp [hA] at h
  | some b =>
    cases b with
    | true =>
      simp only [hA] at h ⊢
      cases hz : sizeV P t with
      | none => simp [hz] at h
      | some n =>
        simp only [hz] at h ⊢
        cases hl : loadV S id off n with
        | none => simp [hl] at h
        | some l => rw [hl] at h; rw [key n l hl]; exact h
    | false =>
      simp only [hA] at h ⊢
      cases hl : loadV S id off 1 with
      | none => simp [hl] at h
      | some l => rw [hl] at h; rw [key 1 l hl]; exact h

theorem binV_noS {S S' : St} {op : BinOp} {t : TypeId} {x y : Operand} {a b : VV} (h1 : op ≠ .eql) (h2 : op ≠ .neq) : binV P S op t x y a b = binV P S' op t x y a b := by
  unfold binV
  cases op <;> first | exact absurd rfl h1 | exact absurd rfl h2 | rfl

theorem lenV_mono {S S' : St} (hh : Grows S S') {ts : List TypeId} {args : List VV} {v : VV} (h : lenV P S ts args = some v) : lenV P S' ts args = some v := by
  have key : ∀ x q, mapOfV S x = some q → mapOfV S' x = some q := by
    intro x q hq
    unfold mapOfV at hq ⊢
    split at hq
    · rename_i r
      cases ho : S.h.get r with
      | none => simp [ho] at hq
      | some o => rw [ho] at hq; rw [hh _ _ ho]; exact hq
    · cases hq
  unfold lenV at h ⊢
  split at h
  · split at h
    · exact h
    · exact h
    · exact h
    · split at h
      · exact h
      · split at h
        · rename_i hq; rw [key _ _ hq]; exact h
        · cases h
    · cases h
  · cases h

theorem simpleV_mono {S S' : St} {e : Operand → VV} {op : Op} {v : VV} {S1 : St} (hm : monoOp op = true) (hh : Grows S S') (h : simpleV P e S op = some (v, S1)) : ∃ S2, simpleV P e S' op = some (v, S2) := by
  cases op <;> simp only [monoOp, Bool.false_eq_true] at hm
  case load t a =>
    simp only [simpleV] at h ⊢
    split at h
    · obtain ⟨h1, _⟩ := optV_eq h
      exact ⟨S', by rw [loadVarV_mono hh h1]; rfl⟩
    · cases h
  case binOp op t x y u =>
    simp only [Bool.and_eq_true, bne_iff_ne, ne_eq] at hm
    simp only [simpleV] at h ⊢
    obtain ⟨h1, _⟩ := optV_eq h
    exact ⟨S', by rw [binV_noS (S' := S) hm.1 hm.2, h1]; rfl⟩
  case call c =>
    cases hc : c.callee with
    | builtin b =>
      cases b <;> simp only [hc, Bool.false_eq_true] at hm
      simp only [simpleV, hc, builtinV] at h ⊢
      split at h
      · rename_i u hu
        simp only [Option.some.injEq, Prod.mk.injEq] at h
        exact ⟨S', by rw [lenV_mono hh hu, h.1]⟩
      · cases h
    | _ => simp [hc] at hm

theorem optV_any {x : Option VV} {v : VV} {S S1 : St} (h : optV x S = some (v, S1)) (S' : St) : ∃ S2, optV x S' = some (v, S2) := by
  obtain ⟨h1, _⟩ := optV_eq h
  exact ⟨S', by rw [h1]; rfl⟩

theorem simpleV_kind0 {S : St} {e : Operand → VV} {op : Op} {v : VV} {S1 : St} (hk : kindOf P op = 0) (h : simpleV P e S op = some (v, S1)) (S' : St) : ∃ S2, simpleV P e S' op = some (v, S2) := by
  cases op <;> (first | (exfalso; revert hk; simp [kindOf, kindV]; done) | skip) <;> simp only [simpleV] at h ⊢
  case move x => simp only [Option.some.injEq, Prod.mk.injEq] at h ⊢; exact ⟨S', h.1, rfl⟩
  case assign x => simp only [Option.some.injEq, Prod.mk.injEq] at h ⊢; exact ⟨S', h.1, rfl⟩
  case pick c a b =>
    split at h <;> simp only [Option.some.injEq, Prod.mk.injEq, reduceCtorEq] at h ⊢
    · exact ⟨S', h.1, rfl⟩
    · exact ⟨S', h.1, rfl⟩
  case makeFunc fn a b =>
    split at h <;> simp only [Option.some.injEq, Prod.mk.injEq, reduceCtorEq] at h ⊢
    exact ⟨S', h.1, rfl⟩
  case convert a b x => exfalso; simp only [kindOf] at hk; split at hk <;> simp at hk
  case call c =>
    cases hc : c.callee with
    | builtin b =>
      simp only [hc] at h ⊢
      simp only [kindOf, kindV, hc] at hk
      cases b <;> (first | (exfalso; revert hk; simp; done) | skip) <;> simp only [builtinV] at h ⊢
      · split at h <;> simp only [Option.some.injEq, Prod.mk.injEq, reduceCtorEq] at h ⊢; exact ⟨S', h.1, rfl⟩
      all_goals
        split at h
        · split at h <;> simp only [Option.some.injEq, Prod.mk.injEq, reduceCtorEq] at h ⊢; exact ⟨S', h.1, rfl⟩
        · cases h
    | _ => simp [hc] at h
  all_goals exact optV_any h S'

/-- an operation of one outcome, or a call of a function by its name that has a contract -/
def okOp (ov : Ov) (o : Oper) : Bool := match o.op with
  | .call c => match c.callee with
    | .builtin .recover => false
    | .builtin _ => true
    | .value (.func f) => (ov f).isSome
    | _ => false
  | .defer _ | .panic _ | .next _ _ => false
  | _ => true
def isCall (o : Oper) : Bool := match o.op with
  | .call c => match c.callee with
    | .builtin _ => false
    | _ => true
  | _ => false
def keepsOp (keep : FuncId → Bool) (o : Oper) : Bool := match o.op with
  | .call c => match c.callee with
    | .value (.func f) => keep f
    | _ => false
  | _ => false

def pairsAll (p : Nat → Nat → Bool) : List Nat → Bool
  | [] => true
  | a :: l => l.all (p a) && pairsAll p l
def onOp (ops : Array Oper) (p : Oper → Bool) (i : Nat) : Bool := match ops[i]? with
  | some o => p o
  | none => false

def tailsOk (ops : Array Oper) (b : Array Nat) : List Nat → Bool
  | [] => true
  | i :: l => (!onOp ops isCall i || l.all (befB b i)) && tailsOk ops b l

/-- a reading operation, ahead of one that writes and that is free of it -/
def pairOk (P : Program) (keep : FuncId → Bool) (ops : Array Oper) (b : Array Nat) (i j : Nat) : Bool :=
  match ops[i]?, ops[j]? with
  | some x, some y =>
    (!(kindOf P x.op != 2 && kindOf P y.op == 2 && freeV b i j) || kindOf P x.op == 0 || (monoOp x.op && keepsOp keep y)) &&
    (!(kindOf P x.op == 2 && kindOf P y.op != 2 && freeV b i j) || kindOf P y.op == 0)
  | _, _ => false

def tripOk (P : Program) (ops : Array Oper) (b : Array Nat) : List Nat → Bool
  | [] => true
  | q :: l => pairsAll (fun i j => !(onOp ops (fun x => kindOf P x.op == 2) i && onOp ops (fun x => kindOf P x.op == 2) j && freeV b q j) || freeV b q i) l && tripOk P ops b l

def seqOk (P : Program) (ov : Ov) (keep : FuncId → Bool) (ops : Array Oper) (cl : List Nat) : Bool :=
  drawOk P ops && decide (canonV P ops = cl) && ops.toList.all (okOp ov) && pairsAll (pairOk P keep ops (Region.before ops)) cl && tripOk P ops (Region.before ops) cl && tailsOk ops (Region.before ops) cl

end Go.Vm

/-
  A logic over the virtual states (7): a region that draws its order, walked as plain text in an order of ours: why it may be. Nothing of any one program.
-/
namespace Go.Vm
variable {P : Program} {ov : Ov} {ops : Array Oper} {S : St} {fr : Fr}

/-- a panic leaves no slot known -/
def panicAll (Q : ExQ) : ExQ := fun x fr S => match x with
  | .panic ch => ∀ t, Q (.panic ch) { fr with t := t } S
  | x => Q x fr S

theorem panicAll_normal {Q : ExQ} (h : Q .normal fr S) : panicAll Q .normal fr S := h
theorem panicAll_panic {Q : ExQ} {ch : List VPan} (h : ∀ t, Q (.panic ch) { fr with t := t } S) : panicAll Q (.panic ch) fr S := h

theorem effectV_congr {e e' : Operand → VV} {op : Op} (h : ∀ x ∈ op.operands, e x = e' x) : effectV P ov recNone e op S = effectV P ov recNone e' op S := by
  have h1 : simpleV P e S op = simpleV P e' S op := simpleV_congr h
  unfold effectV
  cases op <;> simp only [h1]
  rename_i c
  rw [calleeV_congr h]

theorem wpOper_eff {fi : FI} {o : Oper} {K : Fr → St → Prop} {Q : ExQ} (hok : okOp ov o = true) (h : wpOper P ov fi o fr S K Q) :
    ∃ e S1, effectV P ov recNone (fr.ev P.globals.size) o.op S = some (e, S1) ∧ (match e with
      | .returned v => ∃ fr1, fr.put o.dst v = some fr1 ∧ K fr1 S1
      | .panicked ch => Q (.panic ch) fr S1 ∧ isCall o = true) ∧ (kindOf P o.op ≠ 2 → ∃ v, e = .returned v ∧ simpleV P (fr.ev P.globals.size) S o.op = some (v, S1)) := by
  have simple : wpSimple P o fr S K → ∃ v S1, simpleV P (fr.ev P.globals.size) S o.op = some (v, S1) ∧ ∃ fr1, fr.put o.dst v = some fr1 ∧ K fr1 S1 := by
    unfold wpSimple
    intro h
    split at h
    · rename_i v S1 hs
      split at h
      · rename_i fr1 hp; exact ⟨v, S1, hs, fr1, hp, h⟩
      · exact h.elim
    · exact h.elim
  unfold wpOper at h
  unfold okOp at hok
  unfold effectV
  have plain : wpSimple P o fr S K → ∃ e S1, (match simpleV P (fr.ev P.globals.size) S o.op with
      | some (v, S) => some (En.returned v, S)
      | none => none) = some (e, S1) ∧ (match e with
      | .returned v => ∃ fr1, fr.put o.dst v = some fr1 ∧ K fr1 S1
      | .panicked ch => Q (.panic ch) fr S1 ∧ isCall o = true) ∧ (kindOf P o.op ≠ 2 → ∃ v, e = .returned v ∧ simpleV P (fr.ev P.globals.size) S o.op = some (v, S1)) := by
    intro h
    obtain ⟨v, S1, h1, h2⟩ := simple h
    exact ⟨.returned v, S1, by rw [h1], h2, fun _ => ⟨v, rfl, h1⟩⟩
  cases hop : o.op <;> simp only [hop, Bool.false_eq_true] at h hok
  case call c =>
    simp only []
    cases hcc : c.callee with
    | builtin bb =>
      have := plain
      simp only [hop] at this
      cases bb <;> simp only [hcc, Bool.false_eq_true] at h hok <;> exact this h
    | invoke rr m => simp [hcc] at hok
    | value f =>
      simp only [hcc] at h hok ⊢
      cases f with
      | func f =>
        simp only at hok
        have hk : kindOf P (.call c) = 2 := by simp [kindOf, kindV, hcc]
        have hcal : calleeV (fr.ev P.globals.size) c = some (.func f, [] ++ c.args.toList.map (fr.ev P.globals.size) ++ []) := by
          simp only [calleeV, hcc, show fr.ev P.globals.size (.func f) = .func (.func f) [] [] from rfl, yieldOk]
        rw [hcal] at h ⊢
        simp only [wpCall] at h
        cases hov : ov f with
        | none => simp [hov] at hok
        | some g =>
          simp only [hov] at h
          cases hg : g ([] ++ c.args.toList.map (fr.ev P.globals.size) ++ []) S with
          | none => simp only [hg] at h
          | some q =>
            obtain ⟨e, S1⟩ := q
            simp only [hg] at h
            refine ⟨e, S1, by simp only [callV, hov, hg], ?_, fun q => absurd hk q⟩
            have := wpEnd_spec h
            cases e with
            | returned v => exact this
            | panicked ch => exact ⟨this, by simp [isCall, hop, hcc]⟩
      | _ => simp at hok
  all_goals
    have := plain
    simp only [hop] at this
    exact this h

theorem drawEnd_out {vals : Tr VV} {d : Tmp} : ∀ (l : List Oper) (i : Nat) (t : Tr VV), (∀ o ∈ l, o.dst ≠ some d) → (drawEnd l vals t i).get d = t.get d
  | [], _, _, _ => rfl
  | o :: l, i, t, h => by
    have ih := fun t => drawEnd_out (vals := vals) (d := d) l (i + 1) t fun x hx => h x (by simp [hx])
    have h0 := h o (by simp)
    simp only [drawEnd]
    cases hd : o.dst with
    | none => simp only []; exact ih t
    | some d0 =>
      have hne : d ≠ d0 := fun e => h0 (by rw [hd, e])
      cases vals.get i <;> simp only [Tr.with_eq, ih, Tr.get_set, if_neg hne]

theorem drawEnd_in {vals : Tr VV} {d : Tmp} {v : VV} : ∀ (l : List Oper) (i k : Nat) (t : Tr VV) (o : Oper), l[k]? = some o → o.dst = some d → (∀ k' o', l[k']? = some o' → o'.dst = some d → k' = k) → vals.get (i + k) = some v → (drawEnd l vals t i).get d = some v
  | [], _, _, _, _, h, _, _, _ => by simp at h
  | x :: l, i, 0, t, o, h, hd, hu, hv => by
    simp only [List.getElem?_cons_zero, Option.some.injEq] at h
    subst h
    simp only [Nat.add_zero] at hv
    have hout : ∀ o' ∈ l, o'.dst ≠ some d := fun o' ho' e => by
      obtain ⟨k', hk'⟩ := List.getElem?_of_mem ho'
      have := hu (k' + 1) o' (by simpa using hk') e
      omega
    simp only [drawEnd, hd, hv, Tr.with_eq, drawEnd_out l (i + 1) _ hout, Tr.get_set, if_true]
  | x :: l, i, k + 1, t, o, h, hd, hu, hv => by
    have h' : l[k]? = some o := by simpa using h
    have ih := fun t => drawEnd_in (vals := vals) (v := v) l (i + 1) k t o h' hd (fun k' o' q1 q2 => by have := hu (k' + 1) o' (by simpa using q1) q2; omega) (by rw [← hv]; congr 1; omega)
    simp only [drawEnd]
    cases hx : x.dst with
    | none => simp only []; exact ih t
    | some d0 => cases vals.get i <;> simp only [Tr.with_eq, ih]

theorem pairsAll_pw {p : Nat → Nat → Bool} : ∀ {l : List Nat}, pairsAll p l = true → l.Pairwise fun i j => p i j = true
  | [], _ => .nil
  | a :: l, h => by
    simp only [pairsAll, Bool.and_eq_true, List.all_eq_true] at h
    exact .cons h.1 (pairsAll_pw h.2)

theorem tripOk_drop {b : Array Nat} : ∀ {C : List Nat} {q : Nat} {l : List Nat}, tripOk P ops b (C ++ q :: l) = true → pairsAll (fun i j => !(onOp ops (fun x => kindOf P x.op == 2) i && onOp ops (fun x => kindOf P x.op == 2) j && freeV b q j) || freeV b q i) l = true
  | [], q, l, h => by simp only [List.nil_append, tripOk, Bool.and_eq_true] at h; exact h.1
  | a :: C, q, l, h => by simp only [List.cons_append, tripOk, Bool.and_eq_true] at h; exact tripOk_drop h.2

theorem tailsOk_drop {b : Array Nat} : ∀ {C : List Nat} {i : Nat} {l : List Nat}, tailsOk ops b (C ++ i :: l) = true → onOp ops isCall i = true → l.all (befB b i) = true
  | [], i, l, h, hc => by simp only [List.nil_append, tailsOk, Bool.and_eq_true, Bool.or_eq_true, Bool.not_eq_true'] at h; rcases h.1 with q | q; rw [hc] at q; cases q; exact q
  | a :: C, i, l, h, hc => by simp only [List.cons_append, tailsOk, Bool.and_eq_true] at h; exact tailsOk_drop h.2 hc

/-- how the plain walk and the run in our order stand to each other -/
structure SInv (P : Program) (ops : Array Oper) (fr frc : Fr) (C R : List Nat) (s : DrawSt) : Prop where
  n : frc.n = fr.n
  ds : frc.ds = fr.ds
  rc : frc.rc = fr.rc
  inC : ∀ t j, writerOf ops.toList t 0 = some j → j ∈ C → frc.t.get t = s.vals.get j
  outC : ∀ t, (∀ j, writerOf ops.toList t 0 = some j → j ∉ C) → frc.t.get t = fr.t.get t
  has : ∀ j ∈ C, ∃ v, s.vals.get j = some v
  dom : ∀ j v, s.vals.get j = some v → j ∈ C
  done : ∀ x ∈ s.done, x.1 ∈ C ∧ ∃ o, ops[x.1]? = some o ∧ kindOf P o.op = 2
  reads : ∀ q u, (q, u) ∈ s.reads → q ∈ C ∧ ∃ o, ops[q]? = some o ∧ kindOf P o.op ≠ 2 ∧
    ((kindOf P o.op = 0 ∧ ∃ S1 S2, simpleV P (drawEv P.globals.size ops (Region.before ops) fr s.vals q) S1 o.op = some (u, S2)) ∨
     ((∃ i ∈ R, ∃ oi, ops[i]? = some oi ∧ kindOf P oi.op = 2 ∧ freeV (Region.before ops) q i = true) → ∃ S2, simpleV P (drawEv P.globals.size ops (Region.before ops) fr s.vals q) s.S o.op = some (u, S2)))

theorem mem_looks {o : Oper} {t : Tmp} (h : (Operand.tmp t) ∈ o.op.operands) : t ∈ looksV ops o := by
  simp only [looksV, List.mem_append, List.mem_filterMap]
  exact .inl ⟨.tmp t, by simpa using h, rfl⟩

theorem evO_congr {G : Nat} {l l' : Tmp → Option VV} {x : Operand} (h : ∀ t, x = .tmp t → l t = l' t) : evO G l x = evO G l' x := by
  cases x <;> simp only [evO]
  rw [h _ rfl]

section
variable (hd : DrawOk P ops) {C R : List Nat} {i : Nat} {frc : Fr} {s : DrawSt}
include hd

/-- what an operation looks at -/
theorem SInv.look (hI : SInv P ops fr frc C (i :: R) s) (hall : ∀ j, j ∈ C ++ i :: R ↔ j < ops.size) (hnd : (C ++ i :: R).Nodup) (hpw : (C ++ i :: R).Pairwise fun i j => ¬ befB (Region.before ops) j i = true) {o : Oper} (ho : ops[i]? = some o)
    {t : Tmp} (ht : t ∈ looksV ops o) : drawLook ops (Region.before ops) fr s.vals i t = frc.t.get t := by
  have hiC : i ∉ C := fun q => (List.nodup_append.1 hnd).2.2 i q i (by simp) rfl
  have hbC : ∀ j ∈ C, ¬ befB (Region.before ops) i j = true := fun j hj => (List.pairwise_append.1 hpw).2.2 j hj i (by simp)
  simp only [drawLook]
  cases hw : writerOf ops.toList t 0 with
  | none => simp only []; exact (hI.outC t fun j hj => by rw [hw] at hj; cases hj).symm
  | some j =>
    simp only []
    have back := bef_back hd.back
    rcases hd.looks i o ho t ht j hw with rfl | h | h
    · have hf : befB (Region.before ops) j j = false := by
        rw [Bool.eq_false_iff]
        exact fun q => absurd (back j j q) (by omega)
      simp only [hf]
      exact (hI.outC t fun k hk => by rw [hw] at hk; cases hk; exact hiC).symm
    · have hjC : j ∈ C := by
        have hj : j ∈ C ++ i :: R := (hall j).2 (by obtain ⟨oj, h1, _⟩ := writerOf_some hw; exact (Array.getElem?_eq_some_iff.1 h1).1)
        rcases List.mem_append.1 hj with q | q
        · exact q
        · rcases List.mem_cons.1 q with rfl | q
          · exact absurd (back j j h) (by omega)
          · exact absurd h ((List.pairwise_cons.1 (List.pairwise_append.1 hpw).2.1).1 j q)
      simp only [h]
      exact (hI.inC t j hw hjC).symm
    · have hf : befB (Region.before ops) j i = false := by
        rw [Bool.eq_false_iff]
        exact fun q => by have := back j i h; have := back i j q; omega
      simp only [hf]
      exact (hI.outC t fun k hk => by rw [hw] at hk; cases hk; exact fun q => hbC j q h).symm

theorem SInv.env (hI : SInv P ops fr frc C (i :: R) s) (hall : ∀ j, j ∈ C ++ i :: R ↔ j < ops.size) (hnd : (C ++ i :: R).Nodup) (hpw : (C ++ i :: R).Pairwise fun i j => ¬ befB (Region.before ops) j i = true) {o : Oper} (ho : ops[i]? = some o) :
    ∀ x ∈ o.op.operands, frc.ev P.globals.size x = drawEv P.globals.size ops (Region.before ops) fr s.vals i x := by
  intro x hx
  refine evO_congr fun t e => ?_
  subst e
  exact (hI.look hd hall hnd hpw ho (mem_looks hx)).symm

theorem SInv.want (hI : SInv P ops fr frc C (i :: R) s) (hall : ∀ j, j ∈ C ++ i :: R ↔ j < ops.size) (hnd : (C ++ i :: R).Nodup) (hpw : (C ++ i :: R).Pairwise fun i j => ¬ befB (Region.before ops) j i = true) {o : Oper} (ho : ops[i]? = some o) :
    wantedV ops o (fun d => drawLook ops (Region.before ops) fr s.vals i d) = wantedV ops o (fun d => frc.t.get d) := by
  unfold wantedV
  cases hg : o.guard with
  | none => rfl
  | some p =>
    obtain ⟨j, want⟩ := p
    simp only []
    cases hj : ops[j]? with
    | none => rfl
    | some g =>
      simp only []
      cases hgd : g.dst with
      | none => rfl
      | some d =>
        simp only []
        rw [hI.look hd hall hnd hpw ho (t := d) (by simp [looksV, hg, hj, hgd])]

end

/-- what a reading operation sees is not turned by what comes later -/
theorem drawEv_later {C R : List Nat} {i : Nat} (hpw : (C ++ i :: R).Pairwise fun i j => ¬ befB (Region.before ops) j i = true) {vals : Tr VV} {v : VV} {q : Nat} (hq : q ∈ C) {o : Oper} (ho : ops[q]? = some o) :
    ∀ x ∈ o.op.operands, drawEv P.globals.size ops (Region.before ops) fr vals q x = drawEv P.globals.size ops (Region.before ops) fr (vals.set i v) q x := by
  intro x hx
  refine evO_congr fun t e => ?_
  subst e
  simp only [drawLook]
  cases hw : writerOf ops.toList t 0 with
  | none => rfl
  | some j =>
    simp only []
    cases hb : befB (Region.before ops) j q with
    | false => rfl
    | true =>
      simp only []
      rw [Tr.get_set, if_neg]
      rintro rfl
      exact (List.pairwise_append.1 hpw).2.2 q hq j (by simp) hb

theorem onOp_of {p : Oper → Bool} {i : Nat} {o : Oper} (ho : ops[i]? = some o) (h : p o = true) : onOp ops p i = true := by simp only [onOp, ho, h]

/-- one more slot -/
theorem SInv.put (hd : DrawOk P ops) {fr frc fr1 : Fr} {C R : List Nat} {i : Nat} {s : DrawSt} {o : Oper} {v : VV} (hI : SInv P ops fr frc C (i :: R) s) (hall : ∀ j, j ∈ C ++ i :: R ↔ j < ops.size) (hnd : (C ++ i :: R).Nodup) (hpw : (C ++ i :: R).Pairwise fun i j => ¬ befB (Region.before ops) j i = true)
    (ho : ops[i]? = some o) (hp : frc.put o.dst v = some fr1) (s' : DrawSt) (hv : s'.vals = s.vals.set i v) (hdn : ∀ x ∈ s'.done, x.1 ∈ C ++ [i] ∧ ∃ o, ops[x.1]? = some o ∧ kindOf P o.op = 2)
    (hrd : ∀ q u, (q, u) ∈ s'.reads → q ∈ C ++ [i] ∧ ∃ o, ops[q]? = some o ∧ kindOf P o.op ≠ 2 ∧
    ((kindOf P o.op = 0 ∧ ∃ S1 S2, simpleV P (drawEv P.globals.size ops (Region.before ops) fr s'.vals q) S1 o.op = some (u, S2)) ∨
     ((∃ i ∈ R, ∃ oi, ops[i]? = some oi ∧ kindOf P oi.op = 2 ∧ freeV (Region.before ops) q i = true) → ∃ S2, simpleV P (drawEv P.globals.size ops (Region.before ops) fr s'.vals q) s'.S o.op = some (u, S2)))) :
    SInv P ops fr fr1 (C ++ [i]) R s' := by
  have hiC : i ∉ C := fun q => (List.nodup_append.1 hnd).2.2 i q i (by simp) rfl
  have hvi : s.vals.get i = none := by
    cases hq : s.vals.get i with
    | none => rfl
    | some v => exact absurd (hI.dom i v hq) hiC
  -- the frame
  have hfr : fr1.n = frc.n ∧ fr1.ds = frc.ds ∧ fr1.rc = frc.rc ∧ ∀ t, fr1.t.get t = if o.dst = some t then some v else frc.t.get t := by
    unfold Fr.put at hp
    cases hds : o.dst with
    | none => simp only [hds, Option.some.injEq] at hp; subst hp; exact ⟨rfl, rfl, rfl, fun t => by simp⟩
    | some d =>
      simp only [hds] at hp
      cases hb : Nat.blt d frc.n with
      | false => simp [hb] at hp
      | true =>
        simp only [hb, VV.strict_eq, Tr.with_eq, Option.some.injEq] at hp
        subst hp
        refine ⟨rfl, rfl, rfl, fun t => ?_⟩
        simp only [Tr.get_set, Option.some.injEq]
        by_cases e : t = d
        · subst e; simp
        · rw [if_neg e, if_neg (fun q => e q.symm)]
  -- who writes the slot
  have hwr : ∀ t j, writerOf ops.toList t 0 = some j → (o.dst = some t ↔ j = i) := fun t j hj => by
    obtain ⟨oj, h1, h2⟩ := writerOf_some hj
    exact ⟨fun e => (hd.one i o t ho e j oj h1 h2).symm, fun e => by subst e; rw [ho] at h1; cases h1; exact h2⟩
  refine ⟨hfr.1.trans hI.n, hfr.2.1.trans hI.ds, hfr.2.2.1.trans hI.rc, ?_, ?_, ?_, ?_, hdn, hrd⟩
  · intro t j hj hjC
    rw [hfr.2.2.2, hv, Tr.get_set]
    by_cases e : j = i
    · rw [if_pos ((hwr t j hj).2 e), if_pos e]
    · rw [if_neg (fun q => e ((hwr t j hj).1 q)), if_neg e]
      refine hI.inC t j hj ?_
      rcases List.mem_append.1 hjC with q | q
      · exact q
      · exact absurd (List.mem_singleton.1 q) e
  · intro t ht
    rw [hfr.2.2.2, if_neg]
    · exact hI.outC t fun j hj q => ht j hj (List.mem_append_left _ q)
    · intro e
      cases hw : writerOf ops.toList t 0 with
      | none => exact writerOf_none hw i o ho e
      | some j => exact ht j hw (by rw [(hwr t j hw).1 e]; simp)
  · intro j hj
    rw [hv, Tr.get_set]
    by_cases e : j = i
    · exact ⟨v, by rw [if_pos e]⟩
    · rw [if_neg e]
      rcases List.mem_append.1 hj with q | q
      · exact hI.has j q
      · exact absurd (List.mem_singleton.1 q) e
  · intro j u hj
    rw [hv, Tr.get_set] at hj
    by_cases e : j = i
    · simp [e]
    · rw [if_neg e] at hj; exact List.mem_append_left _ (hI.dom j u hj)

theorem draw_walk {keep : FuncId → Bool} (hkeep : ∀ f g args S e S', keep f = true → ov f = some g → g args S = some (e, S') → Grows S S') {fi : FI} {cl : List Nat} {Q : ExQ}
    (hseq : seqOk P ov keep ops cl = true) (fr : Fr) : ∀ (R C : List Nat) (l : List Oper) (frc : Fr) (s : DrawSt), cl = C ++ R → R.map (ops[·]?) = l.map some → SInv P ops fr frc C R s → wpOpers P ov fi ops l frc s.S (panicAll Q) →
    ∃ L, DrawRun P ov recNone ops fr R s L ∧ ∀ y ∈ L, ∃ fr', FrIn fr' y.2.1 ∧ Q y.1 fr' y.2.2 := by
  simp only [seqOk, Bool.and_eq_true, decide_eq_true_eq] at hseq
  obtain ⟨⟨⟨⟨⟨hdo, hcan⟩, hops⟩, hpairs⟩, htrip⟩, htails⟩ := hseq
  have hd := drawOk_spec hdo
  obtain ⟨hnd0, hall0, hpw0⟩ := canonV_spec (P := P) hd.back
  rw [hcan] at hnd0 hall0 hpw0
  have hpp := pairsAll_pw hpairs
  intro R
  induction R with
  | nil =>
    intro C l frc s hcl hl hI h
    cases l with
    | cons o l => simp at hl
    | nil =>
      rw [List.append_nil] at hcl
      subst hcl
      refine ⟨_, .nil s, ?_⟩
      intro y hy
      rw [List.mem_singleton.1 hy]
      refine ⟨frc, ⟨fun t v hv => ?_, hI.n, hI.ds, hI.rc⟩, h⟩
      cases hw : writerOf ops.toList t 0 with
      | none =>
        rw [drawEnd_out ops.toList 0 fr.t fun o ho => by
          obtain ⟨k, hk⟩ := List.getElem?_of_mem ho
          exact writerOf_none hw k o (by simpa using hk)]
        rw [← hI.outC t fun j hj => by rw [hw] at hj; cases hj]
        exact hv
      | some j =>
        obtain ⟨oj, h1, h2⟩ := writerOf_some hw
        have hjC := (hall0 j).2 (Array.getElem?_eq_some_iff.1 h1).1
        refine drawEnd_in ops.toList 0 j fr.t oj (by simpa using h1) h2 (fun k' o' q1 q2 => (hd.one j oj t h1 h2 k' o' (by simpa using q1) q2).symm) ?_
        rw [Nat.zero_add, ← hI.inC t j hw hjC]
        exact hv
  | cons i R ih =>
    intro C l frc s hcl hl hI h
    subst hcl
    cases l with
    | nil => simp at hl
    | cons o l =>
      simp only [List.map_cons, List.cons.injEq] at hl
      obtain ⟨ho, hl⟩ := hl
      have hass : C ++ i :: R = (C ++ [i]) ++ R := by simp
      have hwant := hI.want hd hall0 hnd0 hpw0 ho
      have henv := hI.env hd hall0 hnd0 hpw0 ho
      simp only [wpOpers] at h
      cases hw : wantedV ops o (fun d => frc.t.get d) with
      | none => simp [hw] at h
      | some q =>
        have later : ∀ (v : VV) q u, (q, u) ∈ s.reads → q ∈ C ++ [i] ∧ ∃ o, ops[q]? = some o ∧ kindOf P o.op ≠ 2 ∧
            ((kindOf P o.op = 0 ∧ ∃ S1 S2, simpleV P (drawEv P.globals.size ops (Region.before ops) fr (s.vals.set i v) q) S1 o.op = some (u, S2)) ∨
             ((∃ i ∈ R, ∃ oi, ops[i]? = some oi ∧ kindOf P oi.op = 2 ∧ freeV (Region.before ops) q i = true) → ∃ S2, simpleV P (drawEv P.globals.size ops (Region.before ops) fr (s.vals.set i v) q) s.S o.op = some (u, S2))) := by
          intro v q u hq
          obtain ⟨h1, oq, h2, h3, h4⟩ := hI.reads q u hq
          refine ⟨List.mem_append_left _ h1, oq, h2, h3, ?_⟩
          have hc := drawEv_later (P := P) (fr := fr) hpw0 (vals := s.vals) (v := v) h1 h2
          rcases h4 with ⟨k0, S1, S2, h4⟩ | h4
          · exact .inl ⟨k0, S1, S2, by rw [← simpleV_congr hc]; exact h4⟩
          · refine .inr fun ⟨j, hj, hjj⟩ => ?_
            obtain ⟨S2, h5⟩ := h4 ⟨j, by simp [hj], hjj⟩
            exact ⟨S2, by rw [← simpleV_congr hc]; exact h5⟩
        have mdone : ∀ x ∈ s.done, x.1 ∈ C ++ [i] ∧ ∃ o, ops[x.1]? = some o ∧ kindOf P o.op = 2 := fun x hx => ⟨List.mem_append_left _ (hI.done x hx).1, (hI.done x hx).2⟩
        cases q with
        | false =>
          simp only [hw] at h
          split at h
          · rename_i fr1 hp
            obtain ⟨L, hr, hq⟩ := ih (C ++ [i]) l fr1 { s with vals := s.vals.set i undefV } (by simp) hl (hI.put hd hall0 hnd0 hpw0 ho hp _ rfl mdone (later undefV)) h
            exact ⟨L, .skip ho (by rw [hwant]; exact hw) hr, hq⟩
          · exact h.elim
        | true =>
          simp only [hw] at h
          have hok : okOp ov o = true := List.all_eq_true.1 hops o (by rw [Array.mem_toList_iff]; exact Array.mem_of_getElem? ho)
          obtain ⟨e, S1, hef, hend, hquiet⟩ := wpOper_eff hok h
          have hef' : effectV P ov recNone (drawEv P.globals.size ops (Region.before ops) fr s.vals i) o.op s.S = some (e, S1) := by rw [← effectV_congr henv]; exact hef
          by_cases hk : kindOf P o.op = 2
          · cases e with
            | panicked ch =>
              simp only at hend
              refine ⟨_, .pan ho (by rw [hwant]; exact hw) hk hef' (tailsOk_drop htails (onOp_of ho hend.2)), ?_⟩
              intro y hy
              rw [List.mem_singleton.1 hy]
              refine ⟨_, .refl _, ?_⟩
              have := hend.1 (drawLost ops.toList fr.t)
              have e2 : ({ frc with t := drawLost ops.toList fr.t } : Fr) = { fr with t := drawLost ops.toList fr.t } := by
                obtain ⟨t, n, ds, rc⟩ := frc
                have h1 := hI.n; have h2 := hI.ds; have h3 := hI.rc
                simp only at h1 h2 h3
                subst h1; subst h2; subst h3
                rfl
              rw [e2] at this
              exact this
            | returned v =>
              simp only at hend
              obtain ⟨fr1, hp, hnext⟩ := hend
              -- those that are free of it hold behind it
              have hst : ∀ q u, (q, u) ∈ s.reads → freeV (Region.before ops) q i = true → ∃ oq, ops[q]? = some oq ∧ ∃ S2, simpleV P (drawEv P.globals.size ops (Region.before ops) fr s.vals q) S1 oq.op = some (u, S2) := by
                intro q u hq hf
                obtain ⟨h1, oq, h2, h3, h4⟩ := hI.reads q u hq
                refine ⟨oq, h2, ?_⟩
                rcases h4 with ⟨k0, Sa, Sb, h4⟩ | h4
                · exact simpleV_kind0 k0 h4 S1
                · obtain ⟨S2, h5⟩ := h4 ⟨i, by simp, o, ho, hk, hf⟩
                  have hpo := (List.pairwise_append.1 hpp).2.2 q h1 i (by simp)
                  simp only [pairOk, h2, ho, Bool.and_eq_true, Bool.or_eq_true, Bool.not_eq_true', bne_iff_ne, ne_eq, beq_iff_eq] at hpo
                  rcases hpo.1 with (h6 | h6) | h6
                  · simp [h3, hk, hf] at h6
                  · exact simpleV_kind0 h6 h5 S1
                  · refine simpleV_mono h6.1 ?_ h5
                    -- the call keeps what there was
                    have hkp := h6.2
                    unfold keepsOp at hkp
                    cases hop : o.op <;> simp only [hop, Bool.false_eq_true] at hkp
                    rename_i c
                    cases hcc : c.callee with
                    | builtin bb => simp [hcc] at hkp
                    | invoke rr m => simp [hcc] at hkp
                    | value f =>
                      cases f with
                      | func f =>
                        simp only [hcc] at hkp
                        rw [hop] at hef
                        simp only [effectV, hcc] at hef
                        have hcal : calleeV (frc.ev P.globals.size) c = some (.func f, [] ++ c.args.toList.map (frc.ev P.globals.size) ++ []) := by
                          simp only [calleeV, hcc, show frc.ev P.globals.size (.func f) = .func (.func f) [] [] from rfl, yieldOk]
                        rw [hcal] at hef
                        simp only [callV] at hef
                        cases hov : ov f with
                        | none => simp [hov, recNone] at hef
                        | some g =>
                          simp only [hov] at hef
                          cases hg : g ([] ++ c.args.toList.map (frc.ev P.globals.size) ++ []) s.S with
                          | none => simp only [hg] at hef; cases hef
                          | some y =>
                            obtain ⟨e', S2'⟩ := y
                            simp only [hg, Option.some.injEq, Prod.mk.injEq] at hef
                            obtain ⟨rfl, rfl⟩ := hef
                            exact hkeep f g _ _ _ _ hkp hov hg
                      | _ => simp [hcc] at hkp
              obtain ⟨L, hr, hq⟩ := ih (C ++ [i]) l fr1 { vals := s.vals.set i v, S := S1, done := (i, s.S, S1) :: s.done, reads := s.reads } (by simp) hl
                (hI.put hd hall0 hnd0 hpw0 ho hp _ rfl (fun x hx => by
                    rcases List.mem_cons.1 hx with rfl | hx
                    · exact ⟨by simp, o, ho, hk⟩
                    · exact mdone x hx) (fun q u hq => by
                    obtain ⟨h1, oq, h2, h3, h4⟩ := later v q u hq
                    refine ⟨h1, oq, h2, h3, ?_⟩
                    rcases h4 with h4 | h4
                    · exact .inl h4
                    · refine .inr fun ⟨j, hj, oj, hoj, hkj, hfj⟩ => ?_
                      have hqC := (hI.reads q u hq).1
                      obtain ⟨Ca, Cb, rfl⟩ := List.append_of_mem hqC
                      have ht := pairsAll_pw (tripOk_drop (C := Ca) (q := q) (l := Cb ++ i :: R) (by simpa using htrip))
                      have ht2 := (List.pairwise_cons.1 (List.pairwise_append.1 ht).2.1).1 j hj
                      have hfi : freeV (Region.before ops) q i = true := by
                        simp only [Bool.or_eq_true, Bool.not_eq_true', Bool.and_eq_false_iff] at ht2
                        rcases ht2 with ((h5 | h5) | h5) | h5
                        · rw [onOp_of ho (by simpa using hk)] at h5; cases h5
                        · rw [onOp_of hoj (by simpa using hkj)] at h5; cases h5
                        · rw [hfj] at h5; cases h5
                        · exact h5
                      obtain ⟨oq', h6, S2, h7⟩ := hst q u hq hfi
                      rw [h2] at h6
                      cases h6
                      exact ⟨S2, by rw [← simpleV_congr (drawEv_later (P := P) (fr := fr) hpw0 (vals := s.vals) (v := v) hqC h2)]; exact h7⟩)) hnext
              exact ⟨L, .eff ho (by rw [hwant]; exact hw) hk hef' hst hr, hq⟩
          · obtain ⟨v, rfl, hsv⟩ := hquiet hk
            simp only at hend
            obtain ⟨fr1, hp, hnext⟩ := hend
            have hS := simpleV_quiet hk hsv
            subst hS
            have hsv' : simpleV P (drawEv P.globals.size ops (Region.before ops) fr s.vals i) s.S o.op = some (v, s.S) := by rw [← simpleV_congr henv]; exact hsv
            obtain ⟨L, hr, hq⟩ := ih (C ++ [i]) l fr1 { s with vals := s.vals.set i v, reads := (i, v) :: s.reads } (by simp) hl
              (hI.put hd hall0 hnd0 hpw0 ho hp _ rfl mdone (fun q u hq => by
                rcases List.mem_cons.1 hq with e | hq
                · simp only [Prod.mk.injEq] at e
                  obtain ⟨rfl, rfl⟩ := e
                  refine ⟨by simp, o, ho, hk, .inr fun _ => ⟨s.S, ?_⟩⟩
                  -- its own slot is none of those that it looks at in time
                  rw [← hsv']
                  refine simpleV_congr fun x hx => evO_congr fun t e => ?_
                  subst e
                  simp only [drawLook]
                  cases hwt : writerOf ops.toList t 0 with
                  | none => rfl
                  | some j =>
                    simp only []
                    cases hb : befB (Region.before ops) j q with
                    | false => rfl
                    | true =>
                      simp only []
                      rw [Tr.get_set, if_neg]
                      rintro rfl
                      exact absurd (bef_back hd.back j j hb) (by omega)
                · exact later v q u hq)) hnext
            refine ⟨L, .read ho (by rw [hwant]; exact hw) hk hsv' (fun x hx hf => ?_) hr, hq⟩
            obtain ⟨hxC, ox, hox, hkx⟩ := hI.done x hx
            have hpo := (List.pairwise_append.1 hpp).2.2 x.1 hxC i (by simp)
            simp only [pairOk, hox, ho, Bool.and_eq_true, Bool.or_eq_true, Bool.not_eq_true', bne_iff_ne, ne_eq, beq_iff_eq] at hpo
            rcases hpo.2 with h6 | h6
            · simp [hk, hkx, hf] at h6
            · exact simpleV_kind0 h6 hsv' x.2.1

/-- the operations of these numbers -/
def nthOp : List Oper → Nat → Option Oper
  | [], _ => none
  | o :: _, 0 => some o
  | _ :: l, n + 1 => nthOp l n
theorem nthOp_eq : ∀ (l : List Oper) (i : Nat), nthOp l i = l[i]?
  | [], i => by simp [nthOp]
  | o :: l, 0 => by simp [nthOp]
  | o :: l, i + 1 => by simp [nthOp, nthOp_eq l i]
def opsAt (ops : Array Oper) : List Nat → Option (List Oper)
  | [] => some []
  | i :: c => match nthOp ops.toList i, opsAt ops c with
    | some o, some l => some (o :: l)
    | _, _ => none

theorem opsAt_map : ∀ {cl : List Nat} {l : List Oper}, opsAt ops cl = some l → cl.map (ops[·]?) = l.map some
  | [], l, h => by simp only [opsAt, Option.some.injEq] at h; subst h; rfl
  | i :: c, l, h => by
    simp only [opsAt] at h
    split at h
    · rename_i o l' h1 h2
      simp only [Option.some.injEq] at h
      subst h
      rw [nthOp_eq, Array.getElem?_toList] at h1
      simp [h1, opsAt_map h2]
    · cases h

theorem CodeT.draw (hb : Base P ov) {keep : FuncId → Bool} (hkeep : ∀ f g args S e S', keep f = true → ov f = some g → g args S = some (e, S') → Grows S S') {fi : FI} {id : Nat} {cl : List Nat} {l : List Oper} {Q : ExQ}
    (hseq : seqOk P ov keep ops cl = true) (hfit : fits ops.toList fr.n = true) (hl : opsAt ops cl = some l) (h : wpOpers P ov fi ops l fr S (panicAll Q)) : CodeT P fi (.region id ops true) fr S Q := by
  obtain ⟨L, hr, hq⟩ := draw_walk hkeep hseq fr cl [] l fr { vals := .nil, S := S, done := [], reads := [] } (by simp) (opsAt_map hl)
    ⟨rfl, rfl, rfl, by simp, fun _ _ => rfl, by simp, by simp, by simp, by simp⟩ h
  have hs := hseq
  simp only [seqOk, Bool.and_eq_true, decide_eq_true_eq] at hs
  have hd := drawOk_spec hs.1.1.1.1.1
  obtain ⟨hnd, hall, hpw⟩ := canonV_spec (P := P) hd.back
  rw [hs.1.1.1.1.2] at hnd hall hpw
  obtain ⟨C', F, D, Rd, hC, hE⟩ := drawRun_canon (S0 := S) hd hr [] ⟨by simp, by simp, by simp, by simp, by simp, by simp⟩ rfl (by simpa using hnd) (by simpa using hpw)
  rw [List.nil_append] at hE
  intro ρ w b C p a k hS hx hrc ha
  have hsch : Region.schedule (P.follows .mixedOrders) ops (w.tape w.drawn (.order b.fn id)) = Region.linearise .any ops (w.tape w.drawn (.order b.fn id)) := by
    unfold Region.schedule
    rw [hb.mix]
    rfl
  refine .of_steps (.one stepR_region_draw) ?_
  rw [hsch]
  have hgs : Goes P.globals.size ρ S w ρ S { w with drawn := w.drawn + 1 } := Goes.same hS rfl rfl rfl
  have hrun := draw_run (r := recNone) ⟨recNone_sound, hb.ov, hb.count, fun _ _ _ _ _ h => by simp [recNone] at h⟩ hd (linearise_topo hd.back (w.tape w.drawn (.order b.fn id))) hnd hall hpw hC hE hrc ha hfit _ [] [] D ρ _ a rfl ⟨hgs, rfl, by simp, by simp, rfl, fun t => .inr ⟨by simp, rfl⟩, rfl⟩ (by simp) (k := k)
  obtain ⟨x, fr1, S1, h1, ρ', w', p', a', h2, h3, h4, h5⟩ := hrun
  obtain ⟨fr2, q1, q2⟩ := hq _ h1
  exact ⟨x, fr2, S1, q2, ρ', w', p', a', h2, by rw [q1.rc]; exact h3, ⟨⟨by rw [q1.n]; exact h4.1.1, fun i v hv => h4.1.2 i v (q1.t i v hv)⟩, by rw [q1.ds]; exact h4.2⟩, h5⟩

end Go.Vm
