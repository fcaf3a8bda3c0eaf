/-
  A virtual semantics of the model's code (27): frames: calls, deferred calls, results.
-/
import Derived.Test.YtgdpedfahfmjeaaGreatDoorVmZ
namespace Go.Vm
variable {P : Program} {G : Nat} {ρ ρ' : Ren} {S : St} {w : World}

theorem CallIs.of_steps {L : CallR} {f : FuncId} {kind : CallKind} {C : Callers} {m m1 : Machine} (h : Steps P m m1) (hc : CallIs P G L ρ S w f kind C m1) : CallIs P G L ρ S w f kind C m := by
  obtain ⟨e, rc', S', h1, ρ', w', p', fr, h2, h3, h4, h5⟩ := hc
  exact ⟨e, rc', S', h1, ρ', w', p', fr, h2, h3, h.trans h4, h5⟩

theorem CallIs.of_goes {L L' : CallR} {f : FuncId} {kind : CallKind} {C : Callers} {m : Machine} {ρ1 : Ren} {S1 : St} {w1 : World} (h : Goes G ρ S w ρ1 S1 w1) (hc : CallIs P G L ρ1 S1 w1 f kind C m) (hL : ∀ y ∈ L, y ∈ L') : CallIs P G L' ρ S w f kind C m := by
  obtain ⟨e, rc', S', h1, ρ', w', p', fr, h2, h3, h4, h5⟩ := hc
  exact ⟨e, rc', S', hL _ h1, ρ', w', p', fr, h.trans h2, h3, h4, h5⟩

theorem resultsV_rel (hS : Sim G ρ S w) {t : Tr VV} {n : Nat} {tmps : Array Value} (ht : TRel ρ t n tmps) : ∀ {l : List ResultVar} {vs : List VV}, resultsV P t S l = some vs →
    ∃ vs', (l.mapM (m := Sem) fun
      | .tmp t => pure (tmps.getD t undef)
      | .cell a t => do loadVar t (← asAddr (tmps.getD a undef))).run P w = .ok vs' w ∧ VRels ρ vs vs'
  | [], vs, h => by
    simp only [resultsV, Option.some.injEq] at h
    subst h
    exact ⟨[], rfl, .nil⟩
  | x :: l, vs, h => by
    simp only [resultsV] at h
    cases x with
    | tmp d =>
      simp only at h
      cases hd : t.get d with
      | none => simp [hd] at h
      | some v =>
        cases hr : resultsV P t S l with
        | none => simp [hd, hr] at h
        | some r =>
          simp only [hd, hr, Option.some.injEq] at h
          subst h
          obtain ⟨vs', q1, q2⟩ := resultsV_rel hS ht hr
          refine ⟨tmps.getD d undef :: vs', ?_, .cons (ht.2 d v hd) q2⟩
          rw [List.mapM_cons]
          simp only [Sem.run_bind, Sem.run_pure, Result.andThen_ok, q1]
    | cell d ty =>
      simp only at h
      cases hd : t.get d with
      | none => simp [hd] at h
      | some u =>
        have hu := ht.2 d u hd
        cases u with
        | ptr pa =>
          cases pa with
          | none => simp [hd] at h
          | some pa =>
            obtain ⟨id, off⟩ := pa
            simp only [hd] at h
            cases hv : loadVarV P S ty id off with
            | none => simp [hv] at h
            | some v =>
              cases hr : resultsV P t S l with
              | none => simp [hv, hr] at h
              | some r =>
                simp only [hv, hr, Option.some.injEq] at h
                subst h
                obtain ⟨vs', q1, q2⟩ := resultsV_rel hS ht hr
                obtain ⟨rb, b, n', hρ, v', hvv, hrun⟩ := r_loadVar hS hv
                generalize hq : tmps.getD d undef = q at hu
                cases hu with
                | ptr hρ' =>
                  rw [hρ] at hρ'
                  cases hρ'
                  refine ⟨v' :: vs', ?_, .cons hvv q2⟩
                  rw [List.mapM_cons]
                  have haddr : (asAddr (tmps.getD d undef)).run P w = .ok ⟨rb, b + off, none⟩ w := by rw [hq]; rfl
                  simp only [Sem.run_bind, haddr, Sem.run_pure, Result.andThen_ok, hrun, q1]
        | _ => simp [hd] at h

theorem results_rel (hS : Sim G ρ S w) {t : Tr VV} {n : Nat} {tmps : Array Value} (ht : TRel ρ t n tmps) {fn : Func} {vs : List VV} (h : resultsV P t S fn.results.toList = some vs) :
    ∃ v', (results fn tmps).run P w = .ok v' w ∧ VRel ρ (oneOf vs) v' := by
  obtain ⟨vs', h1, h2⟩ := resultsV_rel hS ht h
  have h3 : (fn.results.mapM (m := Sem) fun
      | .tmp t => pure (tmps.getD t undef)
      | .cell a t => do loadVar t (← asAddr (tmps.getD a undef))).run P w = .ok vs'.toArray w := by
    rw [Array.mapM_eq_mapM_toList, Sem.run_map, h1]
    rfl
  refine ⟨if h : vs'.toArray.size = 1 then vs'.toArray[0] else .tuple vs'.toArray, ?_, ?_⟩
  · unfold results
    rw [Sem.run_bind]
    exact (congrArg (fun q => Result.andThen q fun (a : Array Value) w' => Sem.run P (pure (if h : a.size = 1 then a[0] else Value.tuple a)) w') h3).trans rfl
  · cases h2 with
    | nil => exact .tuple .nil
    | cons hv ht =>
      cases ht with
      | nil => exact hv
      | cons hv2 ht2 => exact .tuple (.cons hv (.cons hv2 ht2))

theorem frame_rel {fn : Func} {args : List VV} {args' : Array Value} {rc : Option (List VPan)} (ha : VRels ρ args args'.toList) :
    ARel ρ (frameV fn args rc) { tmps := args' ++ Array.replicate (fn.ntmps - args'.size) undef, defers := [] } := by
  have hl := ha.length
  rw [Array.length_toList] at hl
  refine ⟨⟨?_, ?_⟩, .nil⟩
  · simp only [frameV, Array.size_append, Array.size_replicate, hl]
    show args.length + (fn.ntmps - args.length) = max fn.ntmps args.length
    omega
  · intro i v hv
    simp only [frameV, Tr.get_setAll, Tr.get_nil] at hv
    split at hv
    · rename_i hi
      obtain ⟨v', q1, q2⟩ := ha.get hv
      have : (args' ++ Array.replicate (fn.ntmps - args'.size) undef).getD i undef = v' := by
        rw [Array.getD_eq_getD_getElem?, Array.getElem?_append_left (by omega)]
        simp only [Nat.sub_zero, Array.getElem?_toList] at q1
        rw [q1]
        rfl
      rw [this]
      exact q2
    · cases hv

theorem callFuncV_sound {r : Rec} (hr : RecSound P r) : CallSound P (callFuncV P r) := by
  intro f args rc S L h ρ w kind C p args' hS hrc ha hk
  unfold callFuncV at h
  cases hf : P.funcs[f]? with
  | none => simp [hf] at h
  | some fn =>
    cases hb : fn.body with
    | none => simp [hf, hb] at h
    | some c =>
      simp only [hf, hb] at h
      obtain ⟨l, hl, hall⟩ := bindL_spec h
      let b : Frame := { (default : Frame) with fn := f, kind := kind, roundOf := none }
      rw [show Frame.enter P f args' kind = b.atR { tmps := args' ++ Array.replicate (fn.ntmps - args'.size) undef, defers := [] } [.code c] by
        simp [Frame.enter, Frame.atR, hf, hb, b]]
      obtain ⟨x1, fr1, S1, hm, ρ1, w1, p1, a1, hg, hrc1, ha1, hre⟩ := hr.code _ _ _ _ _ hl ρ w b C p _ [] hS ⟨rfl, rfl⟩ hrc (frame_rel ha)
      obtain ⟨R, hR, hsub⟩ := hall _ hm
      cases x1 with
      | normal =>
        simp only at hR
        exact .of_goes hg (.of_steps (Steps.trans hre (.one (stepR_end rfl))) (hr.unw f none fr1 S1 R hR ρ1 w1 C p1 b a1 [] .returning hg.sim hrc1 ha1 rfl rfl hk rfl ⟨fn, hf⟩)) hsub
      | ret =>
        simp only at hR
        obtain ⟨k', hre⟩ := hre
        exact .of_goes hg (.of_steps (Steps.trans hre (.one (stepR_ret rfl))) (hr.unw f none fr1 S1 R hR ρ1 w1 C p1 b a1 _ .returning hg.sim hrc1 ha1 rfl rfl hk rfl ⟨fn, hf⟩)) hsub
      | panic ch =>
        simp only at hR
        obtain ⟨k', ch', hch, hre⟩ := hre
        exact .of_goes hg (.of_steps hre (hr.unw f (some ch) fr1 S1 R hR ρ1 w1 C p1 b a1 k' (.panicking ch') hg.sim hrc1 ha1 ⟨ch', rfl, hch⟩ rfl hk rfl ⟨fn, hf⟩)) hsub
      | exit id => simp at hR

theorem callFuncV_body {r : Rec} (f : FuncId) (args : List VV) (rc : Option (List VPan)) (S : St) (L : CallR) (h : callFuncV P r f args rc S = some L) : ∃ fn, P.funcs[f]? = some fn ∧ fn.body.isSome = true := by
  unfold callFuncV at h
  cases hf : P.funcs[f]? with
  | none => simp [hf] at h
  | some fn =>
    cases hb : fn.body with
    | none => simp [hf, hb] at h
    | some c => exact ⟨fn, rfl, by simp [hb]⟩

theorem stepR_collected {fr : Frame} {cs : List Frame} {blk : Nat} {as : Array Value} {ds calls : List Deferred} {w' : World} (hm : fr.mode ≠ .run) (hd : fr.defers = { target := .collected blk, args := as } :: ds)
    (hi : (Instr.takeDeferred blk).run P w = .ok calls w') : step P (lone fr cs w) = .next (lone { fr with defers := calls ++ ds } cs w') := by
  refine step_lone_go ?_
  cases hmode : fr.mode with
  | run => exact absurd hmode hm
  | returning => simp only [stepG, unwind, hmode, hd, Sem.runT_eq, hi, GStep.bare_after]; rfl
  | panicking chain => simp only [stepG, unwind, hmode, hd, Sem.runT_eq, hi, GStep.bare_after]; rfl

theorem takeV_rel (hS : Sim G ρ S w) {id : Nat} {ds : List VDef} {S1 : St} (h : takeV S id = some (ds, S1)) {r b n : Nat} (hρ : ρ id = some (r, b, n)) :
    ∃ ds' w', (Instr.takeDeferred r).run P w = .ok ds' w' ∧ DRels ρ ds ds' ∧ Goes G ρ S w ρ S1 w' := by
  unfold takeV at h
  cases ho : S.h.get id with
  | none => simp [ho] at h
  | some o =>
    cases o with
    | deferred c =>
      cases c with
      | none => simp [ho] at h
      | some c =>
        simp only [ho, Tr.with_eq, Option.some.injEq, Prod.mk.injEq] at h
        obtain ⟨rfl, rfl⟩ := h
        obtain ⟨r1, b1, n1, o', h1, h2, h3⟩ := hS.obj _ _ ho
        rw [hρ] at h1
        cases h1
        cases h3 with
        | deferred hd => exact ⟨_, _, run_takeDeferred h2, hd, Goes.update hS ho rfl hρ .taken⟩
    | _ => simp [ho] at h

theorem stillV_rel {mode : Option (List VPan)} {md : FrameMode} (h : ModeRel ρ mode md) : ModeRel ρ (stillV mode) (settle md) := by
  cases mode with
  | none => cases h; rfl
  | some ch =>
    obtain ⟨ch', rfl, hp⟩ := h
    cases hp with
    | nil => exact ⟨[], rfl, .nil⟩
    | cons hv ht =>
      rename_i p v' l l'
      cases hr : p.recovered with
      | true =>
        simp only [stillV, hr]
        show settle _ = .returning
        simp [settle, ht.goexit]
      | false =>
        simp only [stillV, hr]
        refine ⟨_, ?_, PanRels.cons hv ht⟩
        simp [settle, hr]

theorem raiseV_rel {mode : Option (List VPan)} {md : FrameMode} (h : ModeRel ρ mode md) {vs : List VPan} {vs' : List PanicEntry} (hv : PanRels ρ vs vs') : ModeRel ρ (some (raiseV mode vs)) (raised md vs') := by
  cases mode with
  | none => cases h; exact ⟨vs', rfl, hv⟩
  | some ch =>
    obtain ⟨ch', rfl, hp⟩ := h
    exact ⟨vs' ++ ch', rfl, hv.append hp⟩

theorem unwV_sound {r : Rec} (hr : RecSound P r) (hn : NoCount P) (hcall : ∀ f args rc S L, r.call f args rc S = some L → ∃ fn, P.funcs[f]? = some fn ∧ fn.body.isSome = true) : UnwSound P (unwV P r) := by
  intro f mode fr S L h ρ w C p b a k md hS hrc ha hm hf hk hro hfn
  have hmr : md ≠ .run := by
    cases mode with
    | none => cases hm; simp
    | some ch => obtain ⟨ch', rfl, _⟩ := hm; simp
  unfold unwV at h
  cases hds : fr.ds with
  | nil =>
    have hnil : a.defers = [] := by
      have := ha.2
      rw [hds] at this
      generalize a.defers = q at this
      cases this
      rfl
    simp only [hds] at h
    cases mode with
    | some ch =>
      simp only [Option.some.injEq] at h
      subst h
      obtain ⟨ch', rfl, hch⟩ := hm
      exact ⟨_, _, _, List.mem_singleton.2 rfl, ρ, w, p, _, .refl hS, hrc, .refl _ _, hnil, rfl, hf, hfn, ch', rfl, hch⟩
    | none =>
      cases hm
      cases hq : P.funcs[f]? with
      | none => simp [hq] at h
      | some fn =>
        simp only [hq] at h
        cases hrs : resultsV P fr.t S fn.results.toList with
        | none => simp [hrs] at h
        | some vs =>
          simp only [hrs, Option.some.injEq] at h
          subst h
          obtain ⟨v', h1, h2⟩ := results_rel (P := P) hS ha.1 hrs
          exact ⟨_, _, _, List.mem_singleton.2 rfl, ρ, w, p, _, .refl hS, hrc, .refl _ _, rfl, hnil, rfl, hf, fn, v', hq, h1, h2⟩
  | cons d ds =>
    have had := ha.2
    rw [hds] at had
    obtain ⟨d', ds', hda, hd1, hd2⟩ : ∃ d' ds', a.defers = d' :: ds' ∧ DRel ρ d d' ∧ DRels ρ ds ds' := by
      generalize a.defers = q at had
      cases had with
      | cons h1 h2 => exact ⟨_, _, rfl, h1, h2⟩
    simp only [hds] at h
    cases d with
    | collected id =>
      simp only at h
      cases ht : takeV S id with
      | none => simp [ht] at h
      | some q =>
        obtain ⟨calls, S1⟩ := q
        simp only [ht] at h
        cases hd1 with
        | collected hρ =>
          obtain ⟨calls', w1, h1, h2, h3⟩ := takeV_rel (P := P) hS ht hρ
          have hstep := stepR_collected (P := P) (fr := { b.atR a k with mode := md }) (cs := C.at p) hmr (show a.defers = _ from hda) h1
          refine .of_steps (.one hstep) (.of_goes h3 ?_ fun _ q => q)
          exact hr.unw f mode { fr with ds := calls ++ ds } S1 L h ρ w1 C p b { a with defers := calls' ++ ds' } k md h3.sim hrc ⟨ha.1, h2.append hd2⟩ hm hf hk hro hfn
    | fn tf cap args =>
      cases tf with
      | func g =>
        simp only at h
        obtain ⟨l, hl, hall⟩ := bindL_spec h
        cases hd1 with
        | fn hfr hcap hargs =>
          rename_i fn' c' a'
          cases hfr
          obtain ⟨fng, hg1, hg2⟩ := hcall _ _ _ _ _ hl
          have hinv : (invoke (.fn (.func g) c') a').run P w = .ok (.enter g (a' ++ c')) w := callFunc_enter hn hg1 hg2 (a' ++ c') w
          have hvr : VRels ρ (args ++ cap) (a' ++ c').toList := by rw [Array.toList_append]; exact hargs.append hcap
          have hstep := step_defer (P := P) (fr := { b.atR a k with mode := md }) (cs := C.at p) (w := w) hmr (show a.defers = _ from hda) rfl hinv
          -- the callers of the deferred call
          have key : ∃ C2 p2, C2.at p2 = { b.atR { a with defers := ds' } k with mode := md } :: C.at p ∧ RcRel ρ .deferred C2 mode p2 ∧
              ∀ ρ' mode' p', RcRel ρ' .deferred C2 mode' p' → ∃ md', C2.at p' = { b.atR { a with defers := ds' } k with mode := md' } :: C.at p ∧ ModeRel ρ' mode' md' := by
            cases mode with
            | none =>
              cases hm
              refine ⟨.fixed ({ b.atR { a with defers := ds' } k with mode := .returning } :: C.at p), none, rfl, .fixed fun fr hfr => by simp [tryRecover, hfr], ?_⟩
              intro ρ' mode' p' hq
              cases hq
              exact ⟨_, rfl, rfl⟩
            | some ch =>
              obtain ⟨ch', rfl, hch⟩ := hm
              refine ⟨.over { b.atR { a with defers := ds' } k with mode := .returning } (C.at p), some ch', rfl, .over rfl hch, ?_⟩
              intro ρ' mode' p' hq
              cases hq with
              | over _ hq => exact ⟨_, rfl, _, rfl, hq⟩
          obtain ⟨C2, p2, k1, k2, k3⟩ := key
          obtain ⟨e, rc', S1, hm1, ρ1, w1, p', frx, hg, hrc1, hsteps, hleft⟩ := hr.call g (args ++ cap) mode S l hl ρ w .deferred C2 p2 (a' ++ c') hS k2 hvr (.inr rfl)
          obtain ⟨md', hcs, hmd⟩ := k3 _ _ _ hrc1
          obtain ⟨R, hR, hsub⟩ := hall _ hm1
          rw [k1, hcs] at hsteps
          refine .of_steps (.head hstep hsteps) (.of_goes hg ?_ hsub)
          cases e with
          | returned v =>
            simp only at hR
            obtain ⟨m1, m2, m3, m4, fn0, v', m5, m6, m7⟩ := hleft
            have hst := step_going_returned (P := P) (fr := frx) (c := { b.atR { a with defers := ds' } k with mode := md' }) (cs := C.at p) (w := w1) (v := v') m3 ⟨m1, m2, fn0, by rw [m4]; exact m5, m6⟩
            exact .of_steps (.one hst) (hr.unw f (stillV rc') { fr with ds := ds } S1 R hR ρ1 w1 C p b { a with defers := ds' } k (settle md') hg.sim (hrc.mono hg.ext) ⟨ha.1.mono hg.ext, hd2.mono hg.ext⟩ (stillV_rel hmd) hf hk hro hfn)
          | panicked vs =>
            simp only at hR
            obtain ⟨m1, m2, m3, ⟨fn0, m5⟩, vs', m6, m7⟩ := hleft
            have hst := step_going_panicked (P := P) (fr := frx) (c := { b.atR { a with defers := ds' } k with mode := md' }) (cs := C.at p) (w := w1) (chain := vs') ⟨m6, m1, fn0, by rw [m3]; exact m5⟩
            exact .of_steps (.one hst) (hr.unw f (some (raiseV rc' vs)) { fr with ds := ds } S1 R hR ρ1 w1 C p b { a with defers := ds' } k (raised md' vs') hg.sim (hrc.mono hg.ext) ⟨ha.1.mono hg.ext, hd2.mono hg.ext⟩ (raiseV_rel hmd m7) hf hk hro hfn)
      | _ => simp at h
    | nil => simp at h

end Go.Vm
