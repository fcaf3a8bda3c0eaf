/-
  A virtual semantics of the model's code (23): calls, operations in the text's order.
-/
import Derived.Test.YtgdpedfahfmjeaaGreatDoorVmV
namespace Go.Vm
variable {P : Program} {ρ ρ' : Ren} {S : St} {w : World}

/-- no function of the program is the one that counts goroutines -/
def NoCount (P : Program) : Prop := ∀ (f : FuncId) (fn : Func), P.funcs[f]? = some fn → fn.name ≠ "runtime.NumGoroutine"

/-- what applying an operation comes to, from a frame that waits for a value -/
def Applies (P : Program) (c : Frame) (cs : List Frame) (s : Sem Next) (w : World) (m : Machine) : Prop :=
  ∃ fr1 cs1 w1, (stepG.apply P true c cs none s w).bare = .go { frame := fr1, callers := cs1, status := .running, dying := none } w1 ∧ Steps P (lone fr1 cs1 w1) m

/-- the frame does not wait in a wrapper -/
def Plain (c : Frame) : Prop := (∃ ops l k, c.todo = .inRegion ops l :: k) ∨ ∃ l k, c.todo = .inRangeFunc l :: k

/-- what a call comes to: its caller goes on -/
def Goes1 (P : Program) (ρ' : Ren) (c : Frame) (cs : List Frame) (s : Sem Next) (w w' : World) : En → Prop
  | .returned v => ∃ v', VRel ρ' v v' ∧ Applies P c cs s w (lone (c.finish v') cs w')
  | .panicked ch => ∃ ch', PanRels ρ' ch ch' ∧ Applies P c cs s w (lone (c.raise ch') cs w')

theorem callFunc_enter (hn : NoCount P) {f : FuncId} {fn : Func} (hf : P.funcs[f]? = some fn) (hb : fn.body.isSome = true) (args : Array Value) (w : World) : (callFunc f args).run P w = .ok (.enter f args) w := by
  have h1 : (fn.name == "runtime.NumGoroutine") = false := by simpa using hn f fn hf
  have h2 : fn.body.isNone = false := by cases h : fn.body <;> simp_all
  simp only [callFunc, Sem.run_bind, run_program, Result.andThen_ok, hf, h1, h2, Bool.false_eq_true, if_false, Sem.run_pure]

theorem apply_enter {c : Frame} {cs : List Frame} {s : Sem Next} {f : FuncId} {args : Array Value} (hp : Plain c) (h : s.run P w = .ok (.enter f args) w) :
    (stepG.apply P true c cs none s w).bare = .go { frame := Frame.enter P f args .normal, callers := c :: cs, status := .running, dying := none } w := by
  rcases hp with ⟨ops, l, k, hp⟩ | ⟨l, k, hp⟩ <;> simp only [stepG.apply, Sem.runT_eq, if_true, h, GStep.bare_after, GStep.bare_go, hp]

theorem apply_round {c : Frame} {cs : List Frame} {s : Sem Next} {l : Nat} {f : FuncId} {tmps : Array Value} {assign body : Code} (h : s.run P w = .ok (.round l f tmps assign body) w) :
    (stepG.apply P true c cs none s w).bare = .go { frame := Frame.round l f tmps assign body .normal, callers := c :: cs, status := .running, dying := none } w := by
  simp only [stepG.apply, Sem.runT_eq, if_true, h, GStep.bare_after, GStep.bare_go]

theorem apply_value {c : Frame} {cs : List Frame} {s : Sem Next} {v : Value} {w' : World} (h : s.run P w = .ok (.value v) w') :
    (stepG.apply P true c cs none s w).bare = .go { frame := c.finish v, callers := cs, status := .running, dying := none } w' := by
  simp only [stepG.apply, Sem.runT_eq, if_true, h, GStep.bare_after, GStep.bare_go]

theorem apply_skip {c : Frame} {cs : List Frame} {s : Sem Next} {w' : World} (h : s.run P w = .ok .skip w') :
    (stepG.apply P true c cs none s w).bare = .go { frame := c.finish undef, callers := cs, status := .running, dying := none } w' := by
  simp only [stepG.apply, Sem.runT_eq, if_true, h, GStep.bare_after, GStep.bare_go]

theorem apply_defer {c : Frame} {cs : List Frame} {s : Sem Next} {d : Deferred} {w' : World} (h : s.run P w = .ok (.defer d) w') :
    (stepG.apply P true c cs none s w).bare = .go { frame := { c with defers := d :: c.defers }.finish undef, callers := cs, status := .running, dying := none } w' := by
  simp only [stepG.apply, Sem.runT_eq, if_true, h, GStep.bare_after, GStep.bare_go]

theorem apply_panic {c : Frame} {cs : List Frame} {s : Sem Next} {v : Value} {w' : World} (h : s.run P w = .halt (.panic v) w') :
    (stepG.apply P true c cs none s w).bare = .go { frame := c.raise [{ v, recovered := false }], callers := cs, status := .running, dying := none } w' := by
  simp only [stepG.apply, Sem.runT_eq, if_true, h, GStep.bare_after, GStep.bare_go]

theorem apply_recover {c : Frame} {cs : List Frame} {s : Sem Next} {w' : World} (hr : c.roundOf = none) (h : s.run P w = .ok .recover w') :
    (stepG.apply P true c cs none s w).bare = match tryRecover c cs with
      | some (v, cs') => .go { frame := c.finish v, callers := cs', status := .running, dying := none } w'
      | none => .go { frame := c.finish .nilIface, callers := cs, status := .running, dying := none } w' := by
  simp only [stepG.apply, Sem.runT_eq, if_true, h, GStep.bare_after, hr]
  cases tryRecover c cs <;> rfl

/-- a frame that has done a plain call hands on to its caller -/
theorem step_left {f : FuncId} {fr c : Frame} {cs : List Frame} {e : En} (h : Left P ρ f .normal fr w e) :
    match e with
    | .returned v => ∃ v', VRel ρ v v' ∧ step P (lone fr (c :: cs) w) = .next (lone (c.finish v') cs w)
    | .panicked ch => ∃ ch', PanRels ρ ch ch' ∧ step P (lone fr (c :: cs) w) = .next (lone (c.raise ch') cs w) := by
  cases e with
  | returned v =>
    obtain ⟨h1, h2, h3, h4, fn, v', h5, h6, h7⟩ := h
    exact ⟨v', h7, step_leave_returned ⟨h1, h2, h3, fn, by rw [h4]; exact h5, h6⟩⟩
  | panicked ch =>
    obtain ⟨h1, h2, h3, ⟨fn, h5⟩, ch', h6, h7⟩ := h
    exact ⟨ch', h7, step_leave_panicked ⟨h6, h1, fn, by rw [h3]; exact h5⟩⟩

/-- a call of a function value, from a frame that waits for it -/
theorem callV_sound {ov : Ov} {r : Rec} (hr : RecSound P r) (ho : OvSound P ov) (hn : NoCount P) (hcall : ∀ f args rc S L, r.call f args rc S = some L → ∃ fn, P.funcs[f]? = some fn ∧ fn.body.isSome = true)
    {fn : Fn} {args : List VV} {L : CallR} (h : callV P ov r fn args S = some L) (hS : Sim P.globals.size ρ S w) {fn' : Fn} {args' : Array Value} (hf : FnRel ρ fn fn') (ha : VRels ρ args args'.toList)
    {first captured : Array Value} (hargs : args' = first ++ captured) {s : Sem Next} (hs : s.run P w = (invoke (.fn fn' captured) first).run P w) (hcap : ∀ l, fn = .yield l → captured = #[]) (c : Frame) (cs : List Frame) (hc : Plain c) :
    ∃ e rc S', (e, rc, S') ∈ L ∧ ∃ ρ' w', Goes P.globals.size ρ S w ρ' S' w' ∧ Goes1 P ρ' c cs s w w' e := by
  cases hf with
  | func f =>
    have hs' : s.run P w = (callFunc f args').run P w := by rw [hs, hargs]; rfl
    -- a frame is entered
    have enter : ∀ {ρ' w' S1 e fr}, (callFunc f args').run P w = .ok (.enter f args') w → Goes P.globals.size ρ S w ρ' S1 w' → Steps P (lone (Frame.enter P f args' .normal) (c :: cs) w) (lone fr (c :: cs) w') → Left P ρ' f .normal fr w' e →
        Goes1 P ρ' c cs s w w' e := by
      intro ρ' w' S1 e fr h1 h2 h3 h4
      have hl := step_left (c := c) (cs := cs) h4
      cases e with
      | returned v =>
        obtain ⟨v', q1, q2⟩ := hl
        exact ⟨v', q1, _, _, _, apply_enter hc (by rw [hs', h1]), h3.trans (.one q2)⟩
      | panicked ch =>
        obtain ⟨ch', q1, q2⟩ := hl
        exact ⟨ch', q1, _, _, _, apply_enter hc (by rw [hs', h1]), h3.trans (.one q2)⟩
    simp only [callV] at h
    cases hov : ov f with
    | some g =>
      simp only [hov] at h
      cases hg : g args S with
      | none => simp [hg] at h
      | some q =>
        obtain ⟨v, S1⟩ := q
        simp only [hg, Option.some.injEq] at h
        subst h
        rcases ho f g args S v S1 hov hg ρ w args' hS ha with ⟨ρ', v', w', h1, h2, h3⟩ | ⟨h1, h2⟩
        · exact ⟨_, _, _, List.mem_singleton.2 rfl, ρ', w', h3, v', h2, _, _, _, apply_value (by rw [hs', h1]), .refl _ _⟩
        · obtain ⟨ρ', w', fr, q1, q2, q3⟩ := h2 (c :: cs)
          exact ⟨_, _, _, List.mem_singleton.2 rfl, ρ', w', q1, enter h1 q1 q2 q3⟩
    | none =>
      simp only [hov] at h
      obtain ⟨fnn, hfn, hbody⟩ := hcall _ _ _ _ _ h
      have hent := callFunc_enter hn hfn hbody args' w
      obtain ⟨e, rc', S', h1, ρ', w', p', fr, h2, h3, h4, h5⟩ := hr.call f args none S L h ρ w .normal (.fixed (c :: cs)) none args' hS (.normal _) ha (.inl rfl)
      cases h3
      exact ⟨e, _, S', h1, ρ', w', h2, enter hent h2 h4 h5⟩
  | yield hl =>
    rename_i l r' b n
    have hcap' := hcap l rfl
    subst hcap'
    have hargs' : args' = first := by rw [hargs]; simp
    subst hargs'
    simp only [callV] at h
    obtain ⟨fnn, tmps, assign, body, w0, h1, rfl, h2⟩ := hr.round l args S L h ρ w r' b n args' hS hl ha
    obtain ⟨e, rc', S', q1, ρ', w', q2, q3⟩ := h2 c cs
    have hs' : s.run P w0 = .ok (.round r' fnn tmps assign body) w0 := by rw [hs]; exact h1
    refine ⟨e, rc', S', q1, ρ', w', q2, ?_⟩
    cases e with
    | returned v =>
      obtain ⟨v', q4, q5⟩ := q3
      exact ⟨v', q4, _, _, _, apply_round hs', q5⟩
    | panicked ch =>
      obtain ⟨ch', q4, q5⟩ := q3
      exact ⟨ch', q4, _, _, _, apply_round hs', q5⟩
  | _ => simp [callV] at h

/-- what is called: the model's own reckoning -/
theorem callee_rel {e : Operand → VV} {a : Act} (he : ∀ x, VRel ρ (e x) (a.eval x)) {o : Oper} {c : Call} {fn : Fn} {args : List VV} (ho : o.op = .call c) (h : calleeV e c = some (fn, args)) :
    ∃ fn' first captured, FnRel ρ fn fn' ∧ VRels ρ args (first ++ captured).toList ∧ (∀ w, (execOp a.eval o).run P w = (invoke (.fn fn' captured) first).run P w) ∧ (∀ b, c.callee ≠ .builtin b) ∧ ∀ l, fn = .yield l → captured = #[] := by
  unfold calleeV at h
  cases hc : c.callee with
  | builtin b => simp [hc] at h
  | invoke r m => simp [hc] at h
  | value f =>
    simp only [hc] at h
    have hf := he f
    cases hq : a.eval f with
    | func fn' f' c' =>
      cases hv : e f with
      | func fn0 first captured =>
        rw [hv, hq] at hf
        cases hf with
        | func hfn h1 h2 =>
          simp only [hv] at h
          cases hy : yieldOk fn0 captured with
          | false => simp [hy] at h
          | true =>
          simp only [hy, Option.some.injEq, Prod.mk.injEq] at h
          obtain ⟨rfl, rfl⟩ := h
          refine ⟨fn', f' ++ c.args.map a.eval, c', hfn, ?_, ?_, by simp [hc], ?_⟩
          rotate_left 2
          · rintro l rfl
            cases captured with
            | nil =>
              have := h2.length
              simpa using this
            | cons x y => simp [yieldOk] at hy
          · simp only [Array.toList_append]
            exact ((h1.append (args_rel he c)).append h2)
          · intro w
            simp only [execOp, ho, resolve, hc, Deferred.ofValue, hq, Sem.run_bind, Sem.run_pure, Result.andThen_ok]
      | _ => simp [hv] at h
    | _ =>
      cases hv : e f with
      | func fn0 first captured => rw [hv, hq] at hf; cases hf
      | _ => simp [hv] at h

theorem defer_rel {e : Operand → VV} {a : Act} (he : ∀ x, VRel ρ (e x) (a.eval x)) {o : Oper} {c : Call} {d : VDef} (ho : o.op = .defer c) (h : deferV e c = some d) :
    ∃ d', DRel ρ d d' ∧ ∀ w, (execOp a.eval o).run P w = .ok (.defer d') w := by
  unfold deferV at h
  cases hc : c.callee with
  | builtin b => simp [hc] at h
  | invoke r m => simp [hc] at h
  | value f =>
    simp only [hc] at h
    have hf := he f
    cases hv : e f with
    | func fn0 first captured =>
      rw [hv] at hf
      cases fn0 <;> simp only [hv, reduceCtorEq, Option.some.injEq] at h
      subst h
      generalize hq : a.eval f = q at hf
      cases hf with
      | func hfn h1 h2 =>
        rename_i fn' f' c'
        cases hfn
        refine ⟨{ target := .fn (.func _) c', args := f' ++ c.args.map a.eval }, .fn (.func _) h2 ?_, ?_⟩
        · simp only [Array.toList_append]
          exact h1.append (args_rel he c)
        · intro w
          simp only [execOp, ho, resolve, hc, Deferred.ofValue, hq, Sem.run_bind, Sem.run_pure, Result.andThen_ok]
    | _ => simp [hv] at h

theorem panic_rel {e : Operand → VV} {a : Act} (he : ∀ x, VRel ρ (e x) (a.eval x)) {o : Oper} {x : Operand} {ch : List VPan} (ho : o.op = .panic x) (h : panicV (e x) = some ch) :
    ∃ v, PanRels ρ ch [{ v, recovered := false }] ∧ ∀ w, (execOp a.eval o).run P w = .halt (.panic v) w := by
  have hx := he x
  cases hv : e x with
  | iface t u =>
    rw [hv] at hx
    simp only [hv, panicV, Option.some.injEq] at h
    subst h
    generalize hq : a.eval x = q at hx
    cases hx with
    | iface _ hu =>
      refine ⟨_, .cons (p := { v := .iface t u, recovered := false }) (.iface t hu) .nil, fun w => ?_⟩
      simp [execOp, ho, hq, Instr.panic]
  | _ => simp [hv, panicV] at h

theorem recover_rel {k : CallKind} {C : Callers} {rc : Option (List VPan)} {p : Option (List PanicEntry)} (h : RcRel ρ k C rc p) {c : Frame} (hk : c.kind = k) :
    ∃ v' p', VRel ρ (recoverV rc).1 v' ∧ RcRel ρ k C (recoverV rc).2 p' ∧ (tryRecover c (C.at p) = some (v', C.at p') ∨ (tryRecover c (C.at p) = none ∧ v' = .nilIface ∧ C.at p' = C.at p)) := by
  cases h with
  | fixed hf => exact ⟨.nilIface, none, .nilIface, .fixed hf, .inr ⟨hf c hk, rfl, rfl⟩⟩
  | over hd hp =>
    rename_i cf rest ch ch'
    subst hd
    cases hp with
    | nil =>
      refine ⟨.nilIface, some [], .nilIface, .over rfl .nil, .inr ⟨?_, rfl, rfl⟩⟩
      simp [tryRecover, hk, Callers.at]
    | cons hv ht =>
      rename_i pe v' l l'
      cases hr : pe.recovered with
      | false =>
        refine ⟨v', some ({ v := v', recovered := true } :: l'), by simp only [recoverV, hr]; exact hv, by simp only [recoverV, hr]; exact .over rfl (.cons (p := { v := pe.v, recovered := true }) hv ht), .inl ?_⟩
        simp [tryRecover, hk, Callers.at]
      | true =>
        refine ⟨.nilIface, some ({ v := v', recovered := true } :: l'), by simp only [recoverV, hr]; exact .nilIface, by simp only [recoverV, hr]; exact .over rfl (by have := PanRels.cons (p := pe) hv ht; rw [hr] at this; exact this), .inr ⟨?_, rfl, rfl⟩⟩
        simp [tryRecover, hk, Callers.at]

end Go.Vm
