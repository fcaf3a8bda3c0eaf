/-
  A virtual semantics of the model's code (24): regions in the text's order.
-/
import Derived.Test.YtgdpedfahfmjeaaGreatDoorVmW
namespace Go.Vm
variable {P : Program} {ρ ρ' : Ren} {S : St} {w : World}

theorem steps_op {b : Frame} {a : Act} {ops : Array Oper} {i : Nat} {rest : List Nat} {k : List Item} {cs : List Frame} {o : Oper} {m : Machine} (ho : ops[i]? = some o) (hw : Region.wanted o (yielded ops a.tmps) = true)
    (h : Applies P (b.atR a (.inRegion ops (i :: rest) :: k)) cs (o.semAt b.roundOf a.eval) w m) : Steps P (lone (b.atR a (.inRegion ops (i :: rest) :: k)) cs w) m := by
  obtain ⟨fr1, cs1, w1, h1, h2⟩ := h
  exact .head (step_lone_go (by rw [stepGR_op ho hw]; exact h1)) h2

theorem finish_op {b : Frame} {a : Act} {ops : Array Oper} {i : Nat} {rest : List Nat} {k : List Item} {o : Oper} (ho : ops[i]? = some o) (v : Value) :
    (b.atR a (.inRegion ops (i :: rest) :: k)).finish v = b.atR (a.put o.dst v) (.inRegion ops rest :: k) := by
  rw [Frame.finish_atR, ho]; rfl

theorem plain_op (b : Frame) (a : Act) (ops : Array Oper) (l : List Nat) (k : List Item) : Plain (b.atR a (.inRegion ops l :: k)) := .inl ⟨ops, l, k, rfl⟩

structure Sounds (P : Program) (ov : Ov) (r : Rec) : Prop where
  rec_ : RecSound P r
  ov_ : OvSound P ov
  count : NoCount P
  call : ∀ f args rc S L, r.call f args rc S = some L → ∃ fn, P.funcs[f]? = some fn ∧ fn.body.isSome = true

/-- what one operation comes to -/
def OperIs (P : Program) (G : Nat) (K : Fr → St → Option CodeR) (L : CodeR) (ρ : Ren) (S : St) (w : World) (b : Frame) (C : Callers) (m : Machine) (ops : Array Oper) (rest : List Nat) (k : List Item) : Prop :=
  CodeIs P G L ρ S w b C m k ∨ ∃ fr1 S1 L1 ρ1 w1 p1 a1, K fr1 S1 = some L1 ∧ (∀ y ∈ L1, y ∈ L) ∧ Goes G ρ S w ρ1 S1 w1 ∧ RcRel ρ1 b.kind C fr1.rc p1 ∧ ARel ρ1 fr1 a1 ∧ Steps P m (lone (b.atR a1 (.inRegion ops rest :: k)) (C.at p1) w1)

theorem simple_oper {ov : Ov} {r : Rec} {o : Oper} {fr : Fr} {K : Fr → St → Option CodeR} {L : CodeR} {b : Frame} {C : Callers} {p : Option (List PanicEntry)} {a : Act} {ops : Array Oper} {i : Nat} {rest : List Nat} {k : List Item}
    (h : (match simpleV P (fr.ev P.globals.size) S o.op with
      | some (v, S) => match fr.put o.dst v with
        | some fr => K fr S
        | none => none
      | none => none) = some L) (hnd : ∀ c, o.op ≠ .defer c)
    (hS : Sim P.globals.size ρ S w) (hrc : RcRel ρ b.kind C fr.rc p) (ha : ARel ρ fr a) (ho : ops[i]? = some o) (hw : Region.wanted o (yielded ops a.tmps) = true) :
    OperIs P P.globals.size K L ρ S w b C (lone (b.atR a (.inRegion ops (i :: rest) :: k)) (C.at p) w) ops rest k := by
  cases hs : simpleV P (fr.ev P.globals.size) S o.op with
  | none => simp [hs] at h
  | some q =>
    obtain ⟨v, S1⟩ := q
    simp only [hs] at h
    cases hp : fr.put o.dst v with
    | none => simp [hp] at h
    | some fr1 =>
      simp only [hp] at h
      obtain ⟨ρ1, w1, ⟨v', hrun, hv⟩, hg, _⟩ := simpleV_sound (P := P) hS (ha.ev hS) hs
      obtain ⟨ha1, hrc1⟩ := put_rel hp (ha.mono hg.ext) hv
      refine .inr ⟨fr1, S1, L, ρ1, w1, p, a.put o.dst v', h, fun _ q => q, hg, by rw [hrc1]; exact hrc.mono hg.ext, ha1, ?_⟩
      refine steps_op ho hw ?_
      rw [Oper.semAt_eq _ _ _ hnd, ← finish_op (b := b) (rest := rest) (k := k) ho v']
      rcases hrun with hrun | ⟨hrun, rfl⟩
      · exact ⟨_, _, _, apply_value hrun, .refl _ _⟩
      · exact ⟨_, _, _, apply_skip hrun, .refl _ _⟩

set_option maxHeartbeats 1000000 in
theorem operV_sound {ov : Ov} {r : Rec} (hs : Sounds P ov r) {fi : FI} {o : Oper} {fr : Fr} {K : Fr → St → Option CodeR} {L : CodeR} (h : operV P ov r fi o fr S K = some L) {b : Frame} {C : Callers} {p : Option (List PanicEntry)} {a : Act} {ops : Array Oper} {i : Nat} {rest : List Nat} {k : List Item}
    (hS : Sim P.globals.size ρ S w) (hx : Ctx ρ fi b) (hrc : RcRel ρ b.kind C fr.rc p) (ha : ARel ρ fr a) (ho : ops[i]? = some o) (hw : Region.wanted o (yielded ops a.tmps) = true) :
    OperIs P P.globals.size K L ρ S w b C (lone (b.atR a (.inRegion ops (i :: rest) :: k)) (C.at p) w) ops rest k := by
  have he := ha.ev hS
  unfold operV at h
  cases hop : o.op <;> simp only [hop] at h
  case call c =>
    have hnd : ∀ d, o.op ≠ .defer d := by simp [hop]
    -- calls of functions
    have calls : ∀ {L : CodeR}, (match calleeV (fr.ev P.globals.size) c with
        | none => none
        | some (fn, args) => bindL (callV P ov r fn args S) fun (e, _, S) => match e with
          | .returned v => match fr.put o.dst v with
            | some fr => K fr S
            | none => none
          | .panicked ch => some [(.panic ch, fr, S)]) = some L → OperIs P P.globals.size K L ρ S w b C (lone (b.atR a (.inRegion ops (i :: rest) :: k)) (C.at p) w) ops rest k := by
      intro L h
      cases hc : calleeV (fr.ev P.globals.size) c with
      | none => simp [hc] at h
      | some q =>
        obtain ⟨fn, args⟩ := q
        simp only [hc] at h
        obtain ⟨fn', first, captured, q1, q2, q3, _, q5⟩ := callee_rel (P := P) he hop hc
        obtain ⟨l, hl, hall⟩ := bindL_spec h
        obtain ⟨e, rc', S1, hm, ρ1, w1, hg, hgo⟩ := callV_sound hs.rec_ hs.ov_ hs.count hs.call hl hS q1 q2 rfl (s := execOp a.eval o) (q3 w) q5 (b.atR a (.inRegion ops (i :: rest) :: k)) (C.at p) (plain_op _ _ _ _ _)
        obtain ⟨R, hR, hsub⟩ := hall _ hm
        cases e with
        | returned v =>
          simp only at hR
          obtain ⟨v', hv, happ⟩ := hgo
          cases hp : fr.put o.dst v with
          | none => simp [hp] at hR
          | some fr1 =>
            simp only [hp] at hR
            obtain ⟨ha1, hrc1⟩ := put_rel hp (ha.mono hg.ext) hv
            refine .inr ⟨fr1, S1, R, ρ1, w1, p, a.put o.dst v', hR, hsub, hg, by rw [hrc1]; exact hrc.mono hg.ext, ha1, ?_⟩
            refine steps_op ho hw ?_
            rw [Oper.semAt_eq _ _ _ hnd, ← finish_op (b := b) (rest := rest) (k := k) ho v']
            exact happ
        | panicked ch =>
          simp only [Option.some.injEq] at hR
          subst hR
          obtain ⟨ch', hch, happ⟩ := hgo
          refine .inl ⟨.panic ch, fr, S1, hsub _ (List.mem_singleton.2 rfl), ρ1, w1, p, a, hg, hrc.mono hg.ext, ha.mono hg.ext, .inRegion ops (i :: rest) :: k, ch', hch, ?_⟩
          refine steps_op ho hw ?_
          rw [Oper.semAt_eq _ _ _ hnd]
          exact happ
    cases hcc : c.callee with
    | value f => simp only [hcc] at h; exact calls h
    | invoke rr m => simp only [hcc] at h; exact calls h
    | builtin bb =>
      by_cases hrec : bb = .recover
      · subst hrec
        simp only [hcc] at h
        cases hr : fi.round with
        | some l => simp [hr] at h
        | none =>
          simp only [hr] at h
          have hro : b.roundOf = none := by have := hx.round; simpa [hr] using this
          generalize hrv : recoverV fr.rc = q at h
          obtain ⟨v, rc1⟩ := q
          simp only at h
          cases hp : ({ fr with rc := rc1 } : Fr).put o.dst v with
          | none => simp [hp] at h
          | some fr1 =>
            simp only [hp] at h
            obtain ⟨v', p', h1, h2, h3⟩ := recover_rel hrc (c := b.atR a (.inRegion ops (i :: rest) :: k)) rfl
            rw [hrv] at h1 h2
            obtain ⟨ha1, hrc1⟩ := put_rel (fr := { fr with rc := rc1 }) hp (show ARel ρ { fr with rc := rc1 } a from ha) h1
            refine .inr ⟨fr1, S, L, ρ, w, p', a.put o.dst v', h, fun _ q => q, .refl hS, by rw [hrc1]; exact h2, ha1, ?_⟩
            refine steps_op ho hw ?_
            rw [Oper.semAt_eq _ _ _ hnd, ← finish_op (b := b) (rest := rest) (k := k) ho v']
            have hrun : (execOp a.eval o).run P w = .ok .recover w := by rw [builtin_run hop hcc]; rfl
            refine ⟨_, _, _, ?_, .refl _ _⟩
            rw [apply_recover (by simpa [Frame.atR] using hro) hrun]
            rcases h3 with h3 | ⟨h3, rfl, h4⟩
            · rw [h3]
            · rw [h3, h4]
      · have h' : (match simpleV P (fr.ev P.globals.size) S o.op with
            | some (v, S) => match fr.put o.dst v with
              | some fr => K fr S
              | none => none
            | none => none) = some L := by
          rw [hop]
          cases bb <;> first | (exact absurd rfl hrec) | (simp only [hcc] at h; exact h)
        exact simple_oper (ov := ov) (r := r) h' hnd hS hrc ha ho hw
  case defer c =>
    cases hr : fi.round with
    | some l => simp [hr] at h
    | none =>
      have hro : b.roundOf = none := by have := hx.round; simpa [hr] using this
      cases hd : deferV (fr.ev P.globals.size) c with
      | none => simp [hr, hd] at h
      | some d =>
        simp only [hr, hd] at h
        cases hp : ({ fr with ds := d :: fr.ds } : Fr).put o.dst undefV with
        | none => simp [hp] at h
        | some fr1 =>
          simp only [hp] at h
          obtain ⟨d', h1, h2⟩ := defer_rel (P := P) he hop hd
          obtain ⟨ha1, hrc1⟩ := put_rel (fr := { fr with ds := d :: fr.ds }) (a := { a with defers := d' :: a.defers }) hp ⟨ha.1, .cons h1 ha.2⟩ (undef_rel ρ)
          refine .inr ⟨fr1, S, L, ρ, w, p, ({ a with defers := d' :: a.defers } : Act).put o.dst undef, h, fun _ q => q, .refl hS, by rw [hrc1]; exact hrc, ha1, ?_⟩
          refine steps_op ho hw ?_
          have hsem : o.semAt b.roundOf a.eval = execOp a.eval o := by rw [hro]; rfl
          rw [hsem]
          refine ⟨_, _, _, apply_defer (h2 w), ?_⟩
          rw [← finish_op (b := b) (a := { a with defers := d' :: a.defers }) (rest := rest) (k := k) ho undef]
          exact .refl _ _
  case panic x =>
    have hnd : ∀ d, o.op ≠ .defer d := by simp [hop]
    cases hp : panicV (fr.ev P.globals.size x) with
    | none => simp [hp] at h
    | some ch =>
      simp only [hp, Option.some.injEq] at h
      subst h
      obtain ⟨v, h1, h2⟩ := panic_rel (P := P) he hop hp
      refine .inl ⟨.panic ch, fr, S, List.mem_singleton.2 rfl, ρ, w, p, a, .refl hS, hrc, ha, .inRegion ops (i :: rest) :: k, _, h1, ?_⟩
      refine steps_op ho hw ?_
      rw [Oper.semAt_eq _ _ _ hnd]
      exact ⟨_, _, _, apply_panic (h2 w), .refl _ _⟩
  case next it s =>
    have hnd : ∀ d, o.op ≠ .defer d := by simp [hop]
    obtain ⟨l, hl, hall⟩ := bindL_spec h
    obtain ⟨v, S1, hm, v', w1, h1, h2, hg⟩ := r_next (P := P) hS o.type hl (he it)
    obtain ⟨R, hR, hsub⟩ := hall _ hm
    simp only at hR
    cases hp : fr.put o.dst v with
    | none => simp [hp] at hR
    | some fr1 =>
      simp only [hp] at hR
      obtain ⟨ha1, hrc1⟩ := put_rel hp ha h2
      refine .inr ⟨fr1, S1, R, ρ, w1, p, a.put o.dst v', hR, hsub, hg, by rw [hrc1]; exact hrc, ha1, ?_⟩
      refine steps_op ho hw ?_
      rw [Oper.semAt_eq _ _ _ hnd, ← finish_op (b := b) (rest := rest) (k := k) ho v']
      exact ⟨_, _, _, apply_value (by simp only [execOp, hop, Sem.run_bind, h1, Result.andThen_ok, Sem.run_pure]), .refl _ _⟩
  all_goals
    rw [← hop] at h
    exact simple_oper (ov := ov) (r := r) h (by simp [hop]) hS hrc ha ho hw

theorem opersV_sound {ov : Ov} {r : Rec} (hs : Sounds P ov r) {fi : FI} {ops : Array Oper} {b : Frame} {C : Callers} {k : List Item} : ∀ (l : List Oper) (i : Nat) {fr : Fr} {S : St} {L : CodeR}, opersV P ov r fi ops l fr S = some L → (∀ j, l[j]? = ops[i + j]?) → ∀ {ρ w p a}, Sim P.globals.size ρ S w → Ctx ρ fi b → RcRel ρ b.kind C fr.rc p → ARel ρ fr a →
    CodeIs P P.globals.size L ρ S w b C (lone (b.atR a (.inRegion ops (List.range' i l.length) :: k)) (C.at p) w) k := by
  intro l
  induction l with
  | nil =>
    intro i fr S L h _ ρ w p a hS hx hrc ha
    simp only [opersV, Option.some.injEq] at h
    subst h
    exact ⟨.normal, fr, S, List.mem_singleton.2 rfl, ρ, w, p, a, .refl hS, hrc, ha, .one stepR_region_end⟩
  | cons o l ih =>
    intro i fr S L h hi ρ w p a hS hx hrc ha
    have ho : ops[i]? = some o := by have := hi 0; simpa using this.symm
    have hi' : ∀ j, l[j]? = ops[i + 1 + j]? := fun j => by have := hi (j + 1); rw [show i + 1 + j = i + (j + 1) by omega]; simpa using this
    simp only [opersV] at h
    cases hw : wantedV ops o (fun d => fr.t.get d) with
    | none => simp [hw] at h
    | some q =>
      have hwr := wanted_rel (tmps := a.tmps) (fun t v ht => ha.1.2 t v ht) hw
      simp only [List.length_cons, List.range'_succ]
      cases q with
      | true =>
        simp only [hw] at h
        rcases operV_sound hs h hS hx hrc ha ho hwr (rest := List.range' (i + 1) l.length) (k := k) with hc | ⟨fr1, S1, L1, ρ1, w1, p1, a1, h1, h2, h3, h4, h5, h6⟩
        · exact hc
        · exact .of_steps h6 (.of_goes h3 (ih (i + 1) h1 hi' h3.sim (hx.mono h3.ext) h4 h5) h2)
      | false =>
        simp only [hw] at h
        cases hp : fr.put o.dst undefV with
        | none => simp [hp] at h
        | some fr1 =>
          simp only [hp] at h
          obtain ⟨ha1, hrc1⟩ := put_rel hp ha (undef_rel ρ)
          have hstep := stepR_op_skip (P := P) (b := b) (a := a) (k := k) (cs := C.at p) (w := w) (ops := ops) (i := i) (rest := List.range' (i + 1) l.length) (by simp [ho, hwr])
          simp only [ho, Option.bind_some] at hstep
          exact .of_steps (.one hstep) (ih (i + 1) h hi' hS hx (by rw [hrc1]; exact hrc) ha1)

end Go.Vm
