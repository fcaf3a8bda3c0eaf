/-
  A virtual semantics of the model's code (26): ranges over functions, and their rounds.
-/
import Derived.Test.YtgdpedfahfmjeaaGreatDoorVmY
namespace Go.Vm
variable {P : Program} {G : Nat} {ρ ρ' : Ren} {S : St} {w : World}

theorem loopAt_rel (hS : Sim G ρ S w) {l : Nat} {lo : VLoop} (h : loopAt S l = some lo) :
    S.h.get l = some (.loop lo) ∧ ∃ r b n lo', ρ l = some (r, b, n) ∧ w.heap[r]? = some (.loop lo') ∧ LoopRel ρ lo lo' := by
  unfold loopAt at h
  cases ho : S.h.get l with
  | none => simp [ho] at h
  | some o =>
    cases o <;> simp only [ho, Option.some.injEq, reduceCtorEq] at h
    subst h
    obtain ⟨r, b, n, o', h1, h2, h3⟩ := hS.obj _ _ ho
    cases h3 with
    | loop h3 => exact ⟨rfl, r, b, n, _, h1, h2, h3⟩

theorem putLoop_goes (hS : Sim G ρ S w) {l : Nat} {lo lo1 : VLoop} {lo1' : Loop} {r b n : Nat} (h : S.h.get l = some (.loop lo)) (hρ : ρ l = some (r, b, n)) (hl : LoopRel ρ lo1 lo1') :
    Goes G ρ S w ρ (putLoop S l lo1) (w.putObj r (.loop lo1')) := Goes.update hS h rfl hρ (.loop hl)

theorem setParams_rel {n : Nat} : ∀ (ds : List Tmp) (vs : List VV) {vs' : List Value} {t : Tr VV} {tmps : Array Value}, TRel ρ t n tmps → VRels ρ vs vs' → (∀ d ∈ ds, d < n) →
    TRel ρ (setParams t ds vs) n ((ds.zip vs').foldl (fun (tmps : Array Value) (x : Tmp × Value) => tmps.setIfInBounds x.1 x.2) tmps)
  | [], _, _, _, _, h, _, _ => by simpa [setParams] using h
  | d :: ds, [], _, _, _, h, hv, _ => by cases hv; simpa [setParams] using h
  | d :: ds, v :: vs, _, t, tmps, h, hv, hd => by
    cases hv with
    | cons h1 h2 =>
      simp only [setParams, Tr.with_eq, List.zip_cons_cons, List.foldl_cons]
      exact setParams_rel ds vs (h.set (hd d (by simp)) h1) h2 fun e he => hd e (by simp [he])

theorem roundV_sound {r : Rec} (hr : RecSound P r) : RoundSound P (roundV P r) := by
  intro l args S L h ρ w rb nb kb args' hS hl ha
  unfold roundV at h
  cases hlo : loopAt S l with
  | none => simp [hlo] at h
  | some lo =>
    simp only [hlo] at h
    split at h
    case isFalse => cases h
    case isTrue hc =>
    obtain ⟨hlen, hps⟩ := hc
    obtain ⟨hget, r0, b0, n0, lo', q1, q2, q3⟩ := loopAt_rel hS hlo
    rw [hl] at q1
    cases q1
    have hsz : args'.size = lo'.params.size := by
      rw [← Array.length_toList, ha.length, hlen, ← q3.params, Array.length_toList]
    refine ⟨lo'.fn, _, lo'.assign, lo'.body, w, run_yield q2 hsz, rfl, ?_⟩
    intro c cs
    obtain ⟨l1, hl1, hall1⟩ := bindL_spec h
    let b : Frame := { (default : Frame) with fn := lo.fn, kind := .normal, roundOf := some rb }
    have htr : TRel ρ (setParams lo.t lo.params args) lo.n ((lo'.params.zip args').foldl (fun tmps (t, a) => tmps.setIfInBounds t a) lo'.tmps) := by
      have := setParams_rel (n := lo.n) lo.params args q3.tmps ha (by simpa [Nat.blt_eq] using hps)
      have e : lo.params.zip args'.toList = (lo'.params.zip args').toList := by rw [← q3.params, Array.toList_zip]
      rw [e, Array.foldl_toList] at this
      exact this
    rw [show Frame.round rb lo'.fn ((lo'.params.zip args').foldl (fun tmps (t, a) => tmps.setIfInBounds t a) lo'.tmps) lo'.assign lo'.body .normal =
      b.atR { tmps := (lo'.params.zip args').foldl (fun tmps (t, a) => tmps.setIfInBounds t a) lo'.tmps, defers := [] } [.code lo.assign, .beginRound, .code lo.body] by
        simp [Frame.round, Frame.atR, b, q3.fn, q3.assign, q3.body]]
    obtain ⟨x1, fr1, S1, hm1, ρ1, w1, p1, a1, hg1, hrc1, ha1, hre1⟩ := hr.code _ _ _ _ _ hl1 ρ w b (.fixed (c :: cs)) none { tmps := (lo'.params.zip args').foldl (fun tmps (t, a) => tmps.setIfInBounds t a) lo'.tmps, defers := [] } [.beginRound, .code lo.body] hS
      ⟨rfl, rfl, rb, nb, kb, hl, rfl⟩ (.normal _) ⟨htr, .nil⟩
    obtain ⟨R1, hR1, hsub1⟩ := hall1 _ hm1
    cases x1 with
    | normal =>
      simp only at hR1
      cases hlo1 : loopAt S1 l with
      | none => simp [hlo1] at hR1
      | some lo1 =>
        cases hst : lo1.state <;> simp only [hlo1, hst, reduceCtorEq] at hR1
        obtain ⟨hget1, r1, b1, n1, lo1', s1, s2, s3⟩ := loopAt_rel hg1.sim hlo1
        have hl1' := hg1.ext _ _ hl
        rw [hl1'] at s1
        cases s1
        have hgb : Goes P.globals.size ρ1 S1 w1 ρ1 (putLoop S1 l { lo1 with state := .busy }) (w1.putObj rb (.loop { lo1' with state := .busy })) :=
          putLoop_goes hg1.sim hget1 hl1' ⟨rfl, s3.pending, s3.fn, s3.tmps, s3.params, s3.assign, s3.body, s3.defers⟩
        have hstep1 : step P (lone (b.atR a1 [.beginRound, .code lo.body]) (c :: cs) w1) = .next (lone (b.atR a1 [.code lo.body]) (c :: cs) (w1.putObj rb (.loop { lo1' with state := .busy }))) :=
          stepR_beginRound rfl (run_beginRound s2 (s3.state.trans hst))
        obtain ⟨l2, hl2, hall2⟩ := bindL_spec hR1
        obtain ⟨x2, fr2, S2, hm2, ρ2, w2, p2, a2, hg2, hrc2, ha2, hre2⟩ := hr.code _ _ _ _ _ hl2 ρ1 _ b (.fixed (c :: cs)) p1 a1 [] hgb.sim ⟨rfl, rfl, rb, nb, kb, hl1', rfl⟩ hrc1 ha1
        obtain ⟨R2, hR2, hsub2⟩ := hall2 _ hm2
        have hto : Steps P (lone (b.atR { tmps := (lo'.params.zip args').foldl (fun tmps (t, a) => tmps.setIfInBounds t a) lo'.tmps, defers := [] } [.code lo.assign, .beginRound, .code lo.body]) (c :: cs) w)
            (lone (b.atR a1 [.code lo.body]) (c :: cs) (w1.putObj rb (.loop { lo1' with state := .busy }))) := Steps.trans hre1 (.one hstep1)
        have hg02 : Goes P.globals.size ρ S w ρ2 S2 w2 := (hg1.trans hgb).trans hg2
        simp only at hR2
        cases hlo2 : loopAt S2 l with
        | none => simp [hlo2] at hR2
        | some lo2 =>
          cases hds : fr2.ds with
          | cons d ds => simp [hlo2, hds] at hR2
          | nil =>
            simp only [hlo2, hds] at hR2
            obtain ⟨hget2, r2, b2, n2, lo2', t1, t2, t3⟩ := loopAt_rel hg2.sim hlo2
            have hl2' := hg02.ext _ _ hl
            rw [hl2'] at t1
            cases t1
            have lastg : ∀ (st : LoopState) (jump : Option Code), Goes P.globals.size ρ S w ρ2 (putLoop S2 l { lo2 with state := st, pending := jump }) (w2.putObj rb (.loop { lo2' with state := st, pending := jump })) := fun st jump =>
              hg02.trans (putLoop_goes hg2.sim hget2 hl2' ⟨rfl, rfl, t3.fn, t3.tmps, t3.params, t3.assign, t3.body, t3.defers⟩)
            cases x2 with
            | normal =>
              simp only [Option.some.injEq] at hR2
              subst hR2
              refine ⟨_, _, _, hsub1 _ (hsub2 _ (List.mem_singleton.2 rfl)), ρ2, _, lastg .ready none, .bool true, .bool true, ?_⟩
              exact (hto.trans hre2).trans (.one (stepR_round_end rfl rfl (run_endRound none t2)))
            | ret =>
              simp only [Option.some.injEq] at hR2
              subst hR2
              obtain ⟨k', hre2⟩ := hre2
              refine ⟨_, _, _, hsub1 _ (hsub2 _ (List.mem_singleton.2 rfl)), ρ2, _, lastg .done (some .ret), .bool false, .bool false, ?_⟩
              exact (hto.trans hre2).trans (.one (stepR_round_ret rfl rfl (run_endRound (some .ret) t2)))
            | exit id =>
              simp only [Option.some.injEq] at hR2
              subst hR2
              obtain ⟨k', hk', hre2⟩ := hre2
              refine ⟨_, _, _, hsub1 _ (hsub2 _ (List.mem_singleton.2 rfl)), ρ2, _, lastg .done (some (.exit id)), .bool false, .bool false, ?_⟩
              exact (hto.trans hre2).trans (.one (stepR_round_exit rfl rfl (by rw [hk']; rfl) (run_endRound (some (.exit id)) t2)))
            | panic ch =>
              simp only at hR2
              cases hfn : P.funcs[lo.fn]? with
              | none => simp [hfn] at hR2
              | some fn =>
                simp only [hfn, Option.some.injEq] at hR2
                subst hR2
                obtain ⟨k', ch', hch, hre2⟩ := hre2
                refine ⟨_, _, _, hsub1 _ (hsub2 _ (List.mem_singleton.2 rfl)), ρ2, _, hg02, ch', hch, ?_⟩
                have hnil : a2.defers = [] := by
                  have := ha2.2
                  rw [hds] at this
                  generalize a2.defers = q at this
                  cases this
                  rfl
                exact (hto.trans hre2).trans (.one (step_leave_panicked ⟨rfl, hnil, fn, hfn⟩))
    | _ => simp at hR1

theorem steps_range {b : Frame} {a : Act} {k : List Item} {cs : List Frame} {g : Operand} {ps : Array Tmp} {x y : Code} {l : Nat} {mark : List Deferred} {w1 : World} {m : Machine}
    (he : (Instr.enterLoop b.fn a.tmps ps x y b.roundOf).run P w = .ok (l, mark) w1)
    (h : Applies P (b.atR { a with defers := mark ++ a.defers } (.inRangeFunc l :: k)) cs (do let d ← resolve a.eval (rangeCall g l) 0; invoke d.target d.args) w1 m) :
    Steps P (lone (b.atR a (.code (.rangeFunc g ps x y) :: k)) cs w) m := by
  obtain ⟨fr1, cs1, w2, h1, h2⟩ := h
  refine .head (step_lone_go ?_) h2
  rw [← h1]
  have hev := Frame.eval_atR b { a with defers := mark ++ a.defers } (.inRangeFunc l :: k)
  have hev2 : ({ tmps := a.tmps, defers := mark ++ a.defers } : Act).eval = a.eval := rfl
  simp only [Frame.atR] at hev
  simp only [stepG, stepG.exec, Frame.atR, Sem.runT_eq, he, GStep.bare_after, hev, hev2]

theorem enter_rel (hS : Sim P.globals.size ρ S w) {fi : FI} {b : Frame} (hx : Ctx ρ fi b) {fr : Fr} {a : Act} (ha : ARel ρ fr a) {ds : Nat} {mark : List VDef} {S1 : St}
    (h : (match fi.round with
      | none => some (S.nx, [VDef.collected S.nx], ({ h := S.h.set S.nx (.deferred (some [])), nx := S.nx + 1 } : St))
      | some l => match loopAt S l with
        | some lo => some (lo.defers, [], S)
        | none => none) = some (ds, mark, S1)) (ps : Array Tmp) (x y : Code) :
    ∃ ρ' mark' w' lr, (Instr.enterLoop b.fn a.tmps ps x y b.roundOf).run P w = .ok (lr, mark') w' ∧ ρ' S1.nx = some (lr, 0, 0) ∧ DRels ρ' mark mark' ∧
      Goes P.globals.size ρ S w ρ' { h := S1.h.set S1.nx (.loop { state := .ready, pending := none, fn := fi.fn, t := fr.t, n := fr.n, params := ps.toList, assign := x, body := y, defers := ds }), nx := S1.nx + 1 } w' := by
  have hr := hx.round
  cases hf : fi.round with
  | none =>
    simp only [hf, Option.some.injEq, Prod.mk.injEq] at h hr
    obtain ⟨rfl, rfl, rfl⟩ := h
    have h1 := Goes.alloc hS 0 (.deferred (some [])) (.deferred (some [])) fun _ _ => .deferred .nil
    have h2 := Goes.alloc h1.sim 0 (.loop { state := .ready, pending := none, fn := fi.fn, t := fr.t, n := fr.n, params := ps.toList, assign := x, body := y, defers := S.nx })
      (.loop { state := .ready, pending := none, fn := b.fn, tmps := a.tmps, params := ps, assign := x, body := y, defers := w.heap.size })
      fun ρ' hle => .loop ⟨rfl, rfl, hx.fn, (ha.1.mono h1.ext).mono hle, rfl, rfl, rfl, 0, 0, hle _ _ (by simp [Ren.add])⟩
    refine ⟨_, _, _, _, by rw [hr]; exact run_enterLoop_outer _ _ _ _ _, ?_, .cons (.collected (b := 0) (n := 0) (h2.ext _ _ (by simp [Ren.add]))) .nil, h1.trans h2⟩
    simp [Ren.add, World.add]
  | some l =>
    simp only [hf] at h hr
    obtain ⟨_, r, n, k, hl, hro⟩ := hr
    cases hlo : loopAt S l with
    | none => simp [hlo] at h
    | some lo =>
      simp only [hlo, Option.some.injEq, Prod.mk.injEq] at h
      obtain ⟨rfl, rfl, rfl⟩ := h
      obtain ⟨hget, r0, b0, n0, lo', q1, q2, q3⟩ := loopAt_rel hS hlo
      rw [hl] at q1
      cases q1
      have h2 := Goes.alloc hS 0 (.loop { state := .ready, pending := none, fn := fi.fn, t := fr.t, n := fr.n, params := ps.toList, assign := x, body := y, defers := lo.defers })
        (.loop { state := .ready, pending := none, fn := b.fn, tmps := a.tmps, params := ps, assign := x, body := y, defers := lo'.defers })
        fun ρ' hle => .loop ⟨rfl, rfl, hx.fn, ha.1.mono hle, rfl, rfl, rfl, let ⟨b, n, hd⟩ := q3.defers; ⟨b, n, hle _ _ hd⟩⟩
      exact ⟨_, _, _, _, by rw [hro]; exact run_enterLoop_inner q2 _ _ _ _ _, by simp [Ren.add], .nil, h2⟩

theorem rangeFuncV_sound {ov : Ov} {r : Rec} (hs : Sounds P ov r) : RangeSound P ov r := by
  intro fi f ps x y fr S L h ρ w b C p a k hS hx hrc ha
  unfold rangeFuncV at h
  split at h
  · cases h
  · rename_i ds mark S1 hent
    obtain ⟨ρ1, mark', w1, lr, e1, e2, e3, hg1⟩ := enter_rel hS hx ha hent ps x y
    have ha1 : ARel ρ1 { fr with ds := mark ++ fr.ds } { a with defers := mark' ++ a.defers } := ⟨ha.1.mono hg1.ext, e3.append (ha.2.mono hg1.ext)⟩
    have hf := ha1.ev hg1.sim f
    simp only at h
    cases hv : ({ fr with ds := mark ++ fr.ds } : Fr).ev P.globals.size f with
    | func fn first captured =>
      simp only [hv] at h
      cases hy : yieldOk fn captured with
      | false => simp [hy] at h
      | true =>
        simp only [hy] at h
        rw [hv] at hf
        have hq : ∃ q, ({ a with defers := mark' ++ a.defers } : Act).eval f = q := ⟨_, rfl⟩
        obtain ⟨q, hq⟩ := hq
        rw [hq] at hf
        cases hf with
        | func hfn h1 h2 =>
          rename_i fn' f' c'
          obtain ⟨l, hl, hall⟩ := bindL_spec h
          have hcap : ∀ l, fn = .yield l → c' = #[] := by
            rintro l rfl
            cases captured with
            | nil => have := h2.length; simpa using this
            | cons x y => simp [yieldOk] at hy
          have hargs : VRels ρ1 (first ++ [VV.func (.yield S1.nx) [] []] ++ captured) ((f' ++ #[Value.func (.yield lr) #[] #[]]) ++ c').toList := by
            simp only [Array.toList_append]
            exact ((h1.append (.cons (.func (.yield e2) .nil .nil) .nil)).append h2)
          have hq' : a.eval f = .func fn' f' c' := hq
          obtain ⟨e, rc', S2, hm, ρ2, w2, hg2, hgo⟩ := callV_sound hs.rec_ hs.ov_ hs.count hs.call hl hg1.sim hfn hargs rfl
            (s := do let d ← resolve a.eval (rangeCall f lr) 0; invoke d.target d.args) (by
              simp only [resolve, rangeCall, Deferred.ofValue, hq', Sem.run_bind, Sem.run_pure, Result.andThen_ok]
              simp [Act.eval]) hcap (b.atR { a with defers := mark' ++ a.defers } (.inRangeFunc lr :: k)) (C.at p) (.inr ⟨_, _, rfl⟩)
          obtain ⟨R, hR, hsub⟩ := hall _ hm
          have hg := hg1.trans hg2
          have ha2 := ha1.mono hg2.ext
          cases e with
          | panicked ch =>
            simp only [Option.some.injEq] at hR
            subst hR
            obtain ⟨ch', hch, happ⟩ := hgo
            exact ⟨_, _, _, hsub _ (List.mem_singleton.2 rfl), ρ2, w2, p, _, hg, hrc.mono hg.ext, ha2, _, ch', hch, steps_range e1 happ⟩
          | returned v =>
            obtain ⟨v', _, happ⟩ := hgo
            simp only at hR
            cases hlo : loopAt S2 S1.nx with
            | none => simp [hlo] at hR
            | some lo =>
              simp only [hlo] at hR
              obtain ⟨hget, r0, b0, n0, lo', q1, q2, q3⟩ := loopAt_rel hg2.sim hlo
              have e2' := hg2.ext _ _ e2
              rw [e2'] at q1
              cases q1
              have hgl : Goes P.globals.size ρ2 S2 w2 ρ2 (putLoop S2 S1.nx { lo with state := .exhausted }) (w2.putObj lr (.loop { lo' with state := .exhausted })) :=
                putLoop_goes hg2.sim hget e2' ⟨rfl, q3.pending, q3.fn, q3.tmps, q3.params, q3.assign, q3.body, q3.defers⟩
              have hgg := hg.trans hgl
              generalize putLoop S2 S1.nx { lo with state := .exhausted } = S3 at hgg hR
              -- the loop's end
              have fin : lo.state ≠ .busy → ∀ k', (lo.pending.map Item.code).toList = k' → Steps P (lone (b.atR a (.code (.rangeFunc f ps x y) :: k)) (C.at p) w)
                  (lone (b.atR { a with defers := mark' ++ a.defers } (k' ++ k)) (C.at p) (w2.putObj lr (.loop { lo' with state := .exhausted }))) := fun hst k' hk' => by
                have s1 := steps_range e1 happ
                rw [finish_atR_inRangeFunc] at s1
                have s2 := stepR_endRangeFunc (b := b) (a := { a with defers := mark' ++ a.defers }) (k := k) (cs := C.at p) (run_endLoop (P := P) q2 (by rw [q3.state]; exact hst))
                rw [show (lo'.pending.map Item.code).toList = k' by rw [q3.pending]; exact hk'] at s2
                exact s1.trans (.one s2)
              have fin2 : ∀ {x1 : Ex}, R = [(x1, ({ fr with ds := mark ++ fr.ds } : Fr), S3)] →
                  Reach P (lone (b.atR a (.code (.rangeFunc f ps x y) :: k)) (C.at p) w) b k (C.at p) ρ2 x1 { a with defers := mark' ++ a.defers } (w2.putObj lr (.loop { lo' with state := .exhausted })) →
                  CodeIs P P.globals.size L ρ S w b C (lone (b.atR a (.code (.rangeFunc f ps x y) :: k)) (C.at p) w) k := by
                rintro x1 rfl hre
                exact ⟨_, _, _, hsub _ (List.mem_singleton.2 rfl), ρ2, _, p, _, hgg, hrc.mono hgg.ext, ha2, hre⟩
              have done : lo.state ≠ .busy → (match lo.pending with
                  | none => some [(Ex.normal, ({ fr with ds := mark ++ fr.ds } : Fr), S3)]
                  | some .ret => some [(Ex.ret, ({ fr with ds := mark ++ fr.ds } : Fr), S3)]
                  | some (.exit id) => some [(Ex.exit id, ({ fr with ds := mark ++ fr.ds } : Fr), S3)]
                  | some _ => none) = some R → CodeIs P P.globals.size L ρ S w b C (lone (b.atR a (.code (.rangeFunc f ps x y) :: k)) (C.at p) w) k := fun hst hR => by
                have hfin := fin hst
                cases hp : lo.pending with
                | none =>
                  simp only [hp, Option.some.injEq] at hR
                  exact fin2 (x1 := .normal) hR.symm (hfin [] (by rw [hp]; rfl))
                | some c =>
                  have hfin := hfin [.code c] (by rw [hp]; rfl)
                  cases c <;> simp only [hp, Option.some.injEq, reduceCtorEq] at hR
                  · exact fin2 (x1 := .exit _) hR.symm ⟨k, rfl, hfin⟩
                  · exact fin2 (x1 := .ret) hR.symm ⟨k, hfin⟩
              cases hst : lo.state with
              | busy => simp [hst] at hR
              | _ => simp only [hst] at hR; exact done (by simp [hst]) hR
    | _ => simp [hv] at h

end Go.Vm
