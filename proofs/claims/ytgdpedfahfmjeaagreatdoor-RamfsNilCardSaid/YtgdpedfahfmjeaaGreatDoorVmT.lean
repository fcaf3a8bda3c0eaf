/-
  A virtual semantics of the model's code (20): each simple operation is the model's.
-/
import Derived.Test.YtgdpedfahfmjeaaGreatDoorVmS
namespace Go.Vm
variable {P : Program} {G : Nat} {ρ : Ren} {S : St} {w : World}

theorem r_clearSlice {t e : TypeId} (ty : TypeId) (hS : Sim G ρ S w) (hu : P.underlying t = some (.slice e)) {id off r b k : Nat} (hρ : ρ id = some (r, b, k)) (n c : Nat) {u : VV} {S' : St}
    (h : (match n with
        | 0 => some (undefV, S)
        | n + 1 => match zeroV P e with
          | some z => match cellsV z with
            | some (c :: cs) => match storeV S id off (zerosV (c :: cs) ((n + 1) * (c :: cs).length)) with
              | some S => some (undefV, S)
              | none => none
            | _ => none
          | none => none) = some (u, S')) :
    u = undefV ∧ ∃ w', (Builtin.clear_ [t].toArray ty ⟨[.slice (some ⟨r, b + off, none⟩) n c]⟩).run P w = .ok undef w' ∧ Goes G ρ S w ρ S' w' := by
  cases n with
  | zero =>
    simp only [Option.some.injEq, Prod.mk.injEq] at h
    obtain ⟨rfl, rfl⟩ := h
    exact ⟨rfl, w, by simp [Builtin.clear_, r_underlying hu, undef], .refl hS⟩
  | succ n =>
    simp only at h
    cases hz : zeroV P e with
    | none => simp [hz] at h
    | some z =>
      obtain ⟨z', rz, ez⟩ := r_zeroValue hz
      simp only [hz] at h
      split at h
      · rename_i c0 cs hc
        have hzr : VRels ρ (c0 :: cs) z'.cells.toList := cellsV_rel hc (by rw [ez]; exact ofValue_rel ρ z')
        have hl := hzr.length
        simp only [Array.length_toList] at hl
        cases hst : storeV S id off (zerosV (c0 :: cs) ((n + 1) * (c0 :: cs).length)) with
        | none => rw [hst] at h; cases h
        | some S1 =>
          simp only [hst, Option.some.injEq, Prod.mk.injEq] at h
          obtain ⟨rfl, rfl⟩ := h
          have hrel := zerosV_rel hzr (by simp) ((n + 1) * (c0 :: cs).length)
          have e1 : (Builtin.zeroCells z'.cells (n + 1)).toList = ((Array.range ((n + 1) * (c0 :: cs).length)).map (z'.cells[· % z'.cells.size]!)).toList := by
            simp only [Builtin.zeroCells, hl]
          obtain ⟨w', f1, f2⟩ := r_storeV (P := P) hS hst hrel hρ
          refine ⟨rfl, w', ?_, f2⟩
          rw [← e1] at f1
          simp [Builtin.clear_, r_underlying hu, rz, f1, undef]
      · cases h

theorem r_clear (hS : Sim G ρ S w) {ts : List TypeId} {args : List VV} {args' : Array Value} {u : VV} {S' : St} (ty : TypeId) (h : clearV P S ts args = some (u, S')) (ha : VRels ρ args args'.toList) :
    u = undefV ∧ ∃ w', (Builtin.clear_ ts.toArray ty args').run P w = .ok undef w' ∧ Goes G ρ S w ρ S' w' := by
  unfold clearV at h
  split at h
  · rename_i t x
    obtain ⟨args'⟩ := args'
    change VRels ρ _ args' at ha
    cases ha with
    | cons hx ht =>
      cases ht
      cases hu : P.underlying t with
      | none => simp [hu] at h
      | some d =>
        cases d <;> simp only [hu, reduceCtorEq] at h
        case map kt et =>
          cases hx <;> try (simp [mapOfV] at h; done)
          case nilMap =>
            simp only [Option.some.injEq, Prod.mk.injEq] at h
            obtain ⟨rfl, rfl⟩ := h
            exact ⟨rfl, w, by simp [Builtin.clear_, r_underlying hu, undef], .refl hS⟩
          case map id r b n hρ =>
            simp only at h
            cases hm : mapOfV S (.map (some id)) with
            | none => simp [hm] at h
            | some q =>
              obtain ⟨id', es, c⟩ := q
              simp only [hm, Tr.with_eq, Option.some.injEq, Prod.mk.injEq] at h
              obtain ⟨rfl, rfl⟩ := h
              obtain ⟨r', b', n', es', e1, e2, hρ', ho, hr, he⟩ := hS.map hm (.map hρ)
              cases e1
              cases e2
              exact ⟨rfl, World.put w r (.map #[] c), by simp [Builtin.clear_, r_underlying hu, getObj_run hr (by simp), setObj_put _ hr (by simp), undef], Goes.update hS ho rfl hρ (.map .nil)⟩
        case slice e =>
          cases hx <;> try (simp only [reduceCtorEq] at h; done)
          case nilSlice n c =>
            simp only [Option.some.injEq, Prod.mk.injEq] at h
            obtain ⟨rfl, rfl⟩ := h
            exact ⟨rfl, w, by simp [Builtin.clear_, r_underlying hu, undef], .refl hS⟩
          case restEnd id r b n off off' z hρ =>
            simp only [Option.some.injEq, Prod.mk.injEq] at h
            obtain ⟨rfl, rfl⟩ := h
            exact ⟨rfl, w, by simp [Builtin.clear_, r_underlying hu, undef], .refl hS⟩
          case sliceEnd id r b n off off' hρ =>
            simp only [Option.some.injEq, Prod.mk.injEq] at h
            obtain ⟨rfl, rfl⟩ := h
            exact ⟨rfl, w, by simp [Builtin.clear_, r_underlying hu, undef], .refl hS⟩
          case slice id r b k off n c hρ => exact r_clearSlice ty hS hu hρ n c h
          case rest id r b k off n c z hρ hc hl => exact r_clearSlice ty hS hu hρ n c h
  · cases h


theorem undef_rel (ρ : Ren) : VRel ρ undefV undef := .tuple .nil

/-- what an operation comes to -/
def OpIs (P : Program) (ρ : Ren) (a : Act) (o : Oper) (w : World) (v : VV) (ρ' : Ren) (w' : World) : Prop :=
  ∃ v', ((execOp a.eval o).run P w = .ok (.value v') w' ∨ ((execOp a.eval o).run P w = .ok .skip w' ∧ v' = undef)) ∧ VRel ρ' v v'

theorem builtin_run {a : Act} {o : Oper} {c : Call} {b : Builtin} (ho : o.op = .call c) (hb : c.callee = .builtin b) :
    (execOp a.eval o).run P w = (builtin b c.argTypes o.type (c.args.map fun | .const _ => true | _ => false) (c.args.map a.eval)).run P w := by
  simp only [execOp, ho, resolve, hb, Sem.run_bind, Sem.run_pure, Result.andThen_ok, invoke]
  rfl

theorem args_rel {e : Operand → VV} {a : Act} (he : ∀ x, VRel ρ (e x) (a.eval x)) (c : Call) : VRels ρ (c.args.toList.map e) (c.args.map a.eval).toList := by
  rw [Array.toList_map]
  exact VRels.map _ fun x _ => he x

theorem simple_builtin (hS : Sim G ρ S w) {e : Operand → VV} {a : Act} {o : Oper} {c : Call} {b : Builtin} {v : VV} {S' : St} (ho : o.op = .call c) (hb : c.callee = .builtin b) (he : ∀ x, VRel ρ (e x) (a.eval x))
    (h : builtinV P S b c.argTypes.toList (c.args.toList.map e) = some (v, S')) : ∃ ρ' w', OpIs P ρ a o w v ρ' w' ∧ Goes G ρ S w ρ' S' w' ∧ (kindOf P o.op ≠ 2 → S' = S ∧ w' = w ∧ ρ' = ρ ∧ ∃ v', (execOp a.eval o).run P w = .ok (.value v') w ∧ VRel ρ v v') := by
  have hargs := args_rel he c
  have hk : kindOf P o.op = (match b with | .len => 1 | .cap | .min | .max => 0 | _ => 2) := by
    simp only [kindOf, ho, kindV, hb]
    cases b <;> rfl
  have hrun := builtin_run (P := P) (w := w) (a := a) ho hb
  have hts : c.argTypes.toList.toArray = c.argTypes := by simp
  cases b <;> simp only [builtinV, reduceCtorEq] at h
  case append =>
    obtain ⟨ρ', u', w', e1, e2, e3⟩ := r_append (P := P) hS o.type h hargs
    rw [hts] at e1
    exact ⟨ρ', w', ⟨u', .inl (by rw [hrun]; simp only [builtin, Sem.run_bind, e1, Result.andThen_ok, Sem.run_pure]), e2⟩, e3, fun q => absurd hk q⟩
  case copy =>
    obtain ⟨u', w', e1, e2, e3⟩ := r_copy (P := P) hS o.type h hargs
    rw [hts] at e1
    exact ⟨ρ, w', ⟨u', .inl (by rw [hrun]; simp only [builtin, Sem.run_bind, e1, Result.andThen_ok, Sem.run_pure]), e2⟩, e3, fun q => absurd hk q⟩
  case clear =>
    obtain ⟨rfl, w', e1, e2⟩ := r_clear (P := P) hS o.type h hargs
    rw [hts] at e1
    exact ⟨ρ, w', ⟨undef, .inl (by rw [hrun]; simp only [builtin, Sem.run_bind, e1, Result.andThen_ok, Sem.run_pure]), undef_rel ρ⟩, e2, fun q => absurd hk q⟩
  case delete =>
    split at h
    · rename_i t ts m k hts2 hargs2
      rw [hargs2] at hargs
      have hc2 : ∃ m' k', c.args.map a.eval = #[m', k'] ∧ VRel ρ m m' ∧ VRel ρ k k' := by
        generalize hq : c.args.map a.eval = q at hargs
        obtain ⟨q⟩ := q
        change VRels ρ _ q at hargs
        cases hargs with
        | cons h1 t1 => cases t1 with
          | cons h2 t2 => cases t2; exact ⟨_, _, rfl, h1, h2⟩
      obtain ⟨m', k', q1, q2, q3⟩ := hc2
      obtain ⟨rfl, w', e1, e2⟩ := r_delete (P := P) hS c.argTypes o.type (by rw [← Array.getElem?_toList, hts2]; rfl) h q2 q3
      exact ⟨ρ, w', ⟨undef, .inl (by rw [hrun, q1]; simp only [builtin, Sem.run_bind, e1, Result.andThen_ok, Sem.run_pure]), undef_rel ρ⟩, e2, fun q => absurd hk q⟩
    · cases h
  case len =>
    split at h
    · rename_i v0 hl
      simp only [Option.some.injEq, Prod.mk.injEq] at h
      obtain ⟨rfl, rfl⟩ := h
      obtain ⟨v', e1, e2⟩ := r_len (P := P) hS o.type hl hargs
      rw [hts] at e1
      have e3 : (execOp a.eval o).run P w = .ok (.value v') w := by rw [hrun]; simp only [builtin, Sem.run_bind, e1, Result.andThen_ok, Sem.run_pure]
      exact ⟨ρ, w, ⟨v', .inl e3, e2⟩, .refl hS, fun _ => ⟨rfl, rfl, rfl, v', e3, e2⟩⟩
    · cases h
  case cap =>
    split at h
    · rename_i v0 hl
      simp only [Option.some.injEq, Prod.mk.injEq] at h
      obtain ⟨rfl, rfl⟩ := h
      obtain ⟨v', e1, e2⟩ := r_cap (P := P) o.type hl hargs w
      rw [hts] at e1
      have e3 : (execOp a.eval o).run P w = .ok (.value v') w := by rw [hrun]; simp only [builtin, Sem.run_bind, e1, Result.andThen_ok, Sem.run_pure]
      exact ⟨ρ, w, ⟨v', .inl e3, e2⟩, .refl hS, fun _ => ⟨rfl, rfl, rfl, v', e3, e2⟩⟩
    · cases h
  case min =>
    split at h
    · rename_i x l hargs2
      rw [hargs2] at hargs
      split at h
      · rename_i v0 hl
        simp only [Option.some.injEq, Prod.mk.injEq] at h
        obtain ⟨rfl, rfl⟩ := h
        generalize hq : (c.args.map a.eval).toList = q at hargs
        cases hargs with
        | cons h1 t1 =>
          obtain ⟨v', e1, e2⟩ := r_minMax (P := P) false hl h1 t1 w
          simp only [Bool.false_eq_true, if_false] at e1
          have e3 : (execOp a.eval o).run P w = .ok (.value v') w := by rw [hrun]; simp only [builtin, Builtin.min_, hq, Sem.run_bind, e1, Result.andThen_ok, Sem.run_pure]
          exact ⟨ρ, w, ⟨v', .inl e3, e2⟩, .refl hS, fun _ => ⟨rfl, rfl, rfl, v', e3, e2⟩⟩
      · cases h
    · cases h
  case max =>
    split at h
    · rename_i x l hargs2
      rw [hargs2] at hargs
      split at h
      · rename_i v0 hl
        simp only [Option.some.injEq, Prod.mk.injEq] at h
        obtain ⟨rfl, rfl⟩ := h
        generalize hq : (c.args.map a.eval).toList = q at hargs
        cases hargs with
        | cons h1 t1 =>
          obtain ⟨v', e1, e2⟩ := r_minMax (P := P) true hl h1 t1 w
          simp only [if_true] at e1
          have e3 : (execOp a.eval o).run P w = .ok (.value v') w := by rw [hrun]; simp only [builtin, Builtin.max_, hq, Sem.run_bind, e1, Result.andThen_ok, Sem.run_pure]
          exact ⟨ρ, w, ⟨v', .inl e3, e2⟩, .refl hS, fun _ => ⟨rfl, rfl, rfl, v', e3, e2⟩⟩
      · cases h
    · cases h

end Go.Vm
