/-
  A virtual semantics of the model's code (13): maps, iterators.
-/
import Derived.Test.YtgdpedfahfmjeaaGreatDoorVmI
namespace Go.Vm
variable {P : Program} {G : Nat} {ρ : Ren} {S : St} {w : World}

theorem ERels.length : ∀ {l : List (VV × VV × Nat)} {l' : List MapEntry}, ERels ρ l l' → l'.length = l.length
  | _, _, .nil => rfl
  | _, _, .cons _ _ t => by simp [ERels.length t]

theorem ERels.get : ∀ {l : List (VV × VV × Nat)} {l' : List MapEntry}, ERels ρ l l' → ∀ {i : Nat} {k v : VV} {b : Nat}, l[i]? = some (k, v, b) → ∃ e, l'[i]? = some e ∧ VRel ρ k e.key ∧ VRel ρ v e.val ∧ e.born = b
  | _, _, .nil, i, _, _, _, h => by simp at h
  | _, _, .cons hk hv t, 0, k, v, b, h => by simp at h; obtain ⟨rfl, rfl, rfl⟩ := h; exact ⟨_, rfl, hk, hv, rfl⟩
  | _, _, .cons hk hv t, i + 1, k, v, b, h => by simp at h; simpa using ERels.get t h

theorem keyPlain_run {t : TypeId} {v : Value} (h : keyPlain P t = true) (empty : Bool) (n : Nat) (w : World) : (Instr.checkKey empty (n + 1) t v).run P w = .ok () w := by
  unfold keyPlain at h
  cases hu : P.underlying t with
  | none => simp [hu] at h
  | some d => cases d <;> simp [hu] at h <;> simp [Instr.checkKey, r_underlying hu]

theorem keyFields_run {cs : List VV} {cs' : Array Value} (hc : VRels ρ cs cs'.toList) (empty : Bool) (n : Nat) : ∀ {fs : List Field}, keyFields P cs.length fs = true → ∀ w,
    (forIn (m := Sem) fs PUnit.unit fun f _ =>
      if f.name ≠ "_" then do
        let x ← part f.type cs' f.offset
        Instr.checkKey empty (n + 1) f.type x
        pure (ForInStep.yield PUnit.unit)
      else pure (ForInStep.yield PUnit.unit)).run P w = .ok PUnit.unit w := by
  intro fs
  induction fs with
  | nil => intro _ w; rfl
  | cons f fs ih =>
    intro h w
    simp only [keyFields, Bool.and_eq_true] at h
    obtain ⟨⟨⟨h1, h2⟩, h3⟩, h4⟩ := h
    have ha : isAggV P f.type = some false := by
      cases hq : isAggV P f.type with
      | none => simp [hq] at h2
      | some b => cases b <;> simp_all
    have hlt : f.offset < cs'.size := by
      have := hc.length
      simp only [Array.length_toList] at this
      rw [this]
      simpa [Nat.blt_eq] using h3
    have hp : (part f.type cs' f.offset).run P w = .ok cs'[f.offset] w := by
      simp [part, r_isAgg ha, hlt]
    simp only [List.forIn_cons, Sem.run_bind, Sem.run_ite]
    split
    · simp only [Sem.run_bind, hp, Result.andThen_ok, keyPlain_run h1, Sem.run_pure]
      exact ih h4 w
    · simp only [Sem.run_pure, Result.andThen_ok]
      exact ih h4 w

theorem keyOk_run' {t : TypeId} {k : VV} {k' : Value} (h : keyOk P t k = true) (hk : VRel ρ k k') (empty : Bool) (n : Nat) (w : World) : (Instr.checkKey empty (n + 2) t k').run P w = .ok () w := by
  unfold keyOk at h
  cases hu : P.underlying t with
  | none => simp [hu, keyPlain] at h
  | some d =>
    cases d
    case struct fs =>
      simp only [hu] at h
      cases hk <;> try (simp only [Bool.false_eq_true] at h; done)
      rename_i cs cs' hc
      have := keyFields_run hc empty n h w
      rw [Instr.checkKey]
      simp only [Sem.run_bind, r_underlying hu, Result.andThen_ok]
      rw [← Array.forIn_toList, this]
      rfl
    all_goals
      simp only [hu] at h
      exact keyPlain_run h empty (n + 1) w

theorem keyOk_run {t : TypeId} {k : VV} {k' : Value} (h : keyOk P t k = true) (hk : VRel ρ k k') (empty : Bool) (w : World) : (Instr.checkKey empty 10000 t k').run P w = .ok () w :=
  keyOk_run' h hk empty 9998 w

theorem equal_now {t : TypeId} {d : TypeDesc} {k k2 : Value} {r : Bool} (hu : P.underlying t = some d) (h : Instr.sameNow d k k2 = some r) (n : Nat) (w : World) : (Op.equalIn (n + 1) t k k2).run P w = .ok r w := by
  cases d <;> cases k <;> cases k2 <;> simp only [Instr.sameNow, reduceCtorEq] at h
  case int.int.int =>
    split at h
    · rename_i hk
      simp only [Option.some.injEq] at h
      subst h
      simp [Op.equalIn, r_underlying hu, hk]
    · cases h
  case string.string.string =>
    simp only [Option.some.injEq] at h
    subst h
    simp [Op.equalIn, r_underlying hu]
  case bool.bool.bool =>
    simp only [Option.some.injEq] at h
    subst h
    simp [Op.equalIn, r_underlying hu]

theorem findV_asking (hS : Sim G ρ S w) {t : TypeId} {k : VV} {k' : Value} (hk : VRel ρ k k') : ∀ {es : List (VV × VV × Nat)} {es' : List MapEntry} {i : Nat} {r : Option (Nat × VV × Nat)}, findV P S t k es i = some r → ERels ρ es es' →
    (match r with
     | none => (Instr.findAsking t k' es' i).run P w = .ok none w
     | some (j, v, b) => ∃ v', (Instr.findAsking t k' es' i).run P w = .ok (some (j, v')) w ∧ VRel ρ v v' ∧ i ≤ j ∧ (∃ e, es'[j - i]? = some e ∧ e.val = v' ∧ e.born = b) ∧ ∃ kk, es[j - i]? = some (kk, v, b)) := by
  intro es
  induction es with
  | nil =>
    intro es' i r h he
    cases he
    simp only [findV, Option.some.injEq] at h
    subst h
    rfl
  | cons x es ih =>
    intro es' i r h he
    cases he with
    | cons hkk hvv ht =>
      rename_i kk vv kk' vv' bb l'
      simp only [findV] at h
      cases hq : eqV P S eqDepth t k kk with
      | none => simp [hq] at h
      | some q =>
        have he := r_eqV hS eqDepth t k kk q k' kk' hq hk hkk
        cases q with
        | true =>
          simp only [hq, Option.some.injEq] at h
          subst h
          refine ⟨vv', ?_, hvv, Nat.le_refl _, ?_, ?_⟩
          · simp only [Instr.findAsking, Op.equal, Sem.run_bind]
            rw [show Op.maxDepth = eqDepth from rfl, he]
            rfl
          · exact ⟨_, by rw [Nat.sub_self]; rfl, rfl, rfl⟩
          · exact ⟨kk, by rw [Nat.sub_self]; rfl⟩
        | false =>
          simp only [hq] at h
          have := ih h ht
          have e1 : (Instr.findAsking t k' ({ key := kk', val := vv', born := bb } :: l') i).run P w = (Instr.findAsking t k' l' (i + 1)).run P w := by
            simp only [Instr.findAsking, Op.equal, Sem.run_bind]
            rw [show Op.maxDepth = eqDepth from rfl, he]
            rfl
          cases r with
          | none => simpa only [e1] using this
          | some p =>
            obtain ⟨j, v, b⟩ := p
            obtain ⟨v', a1, a2, a3, ⟨e, a4, a5, a6⟩, kq, a7⟩ := this
            refine ⟨v', by rw [e1]; exact a1, a2, by omega, ⟨e, ?_, a5, a6⟩, kq, ?_⟩
            · rw [show j - i = (j - (i + 1)) + 1 by omega]; simpa using a4
            · rw [show j - i = (j - (i + 1)) + 1 by omega]; simpa using a7

/-- the quick look comes to what the asking one does, where it comes to anything -/
theorem findNow_asking {t : TypeId} {d : TypeDesc} (hu : P.underlying t = some d) {k : Value} (w : World) : ∀ {es : List MapEntry} {i : Nat} {r : Option (Nat × Value)}, Instr.findNow d k es i = some r → (Instr.findAsking t k es i).run P w = .ok r w := by
  intro es
  induction es with
  | nil => intro i r h; simp only [Instr.findNow, Option.some.injEq] at h; subst h; rfl
  | cons e es ih =>
    intro i r h
    simp only [Instr.findNow] at h
    cases hs : Instr.sameNow d k e.key with
    | none => simp [hs] at h
    | some q =>
      have he := equal_now hu hs 9999 w
      cases q with
      | true =>
        simp only [hs, Option.some.injEq] at h
        subst h
        simp only [Instr.findAsking, Op.equal, Sem.run_bind]
        rw [show Op.maxDepth = 9999 + 1 from rfl, he]
        rfl
      | false =>
        simp only [hs] at h
        simp only [Instr.findAsking, Op.equal, Sem.run_bind]
        rw [show Op.maxDepth = 9999 + 1 from rfl, he]
        simpa using ih h

theorem r_findKey (hS : Sim G ρ S w) {t : TypeId} {k : VV} {k' : Value} (hk : VRel ρ k k') {es : List (VV × VV × Nat)} {es' : List MapEntry} {r : Option (Nat × VV × Nat)} (h : findV P S t k es 0 = some r) (he : ERels ρ es es')
    (hu : ∃ d, P.underlying t = some d) :
    (match r with
     | none => (Instr.findKey t k' es').run P w = .ok none w
     | some (j, v, b) => ∃ v', (Instr.findKey t k' es').run P w = .ok (some (j, v')) w ∧ VRel ρ v v' ∧ (∃ e, es'[j]? = some e ∧ e.val = v' ∧ e.born = b) ∧ ∃ kk, es[j]? = some (kk, v, b)) := by
  obtain ⟨d, hd⟩ := hu
  have ha := findV_asking hS hk h he
  have e0 : ∀ x, (Instr.findAsking t k' es' 0).run P w = .ok x w → (Instr.findKey t k' es').run P w = .ok x w := by
    intro x hx
    simp only [Instr.findKey, Sem.run_bind, r_underlying hd, Result.andThen_ok]
    cases hn : Instr.findNow d k' es' 0 with
    | none => exact hx
    | some q =>
      have := findNow_asking hd w hn
      rw [hx] at this
      simp only [Result.ok.injEq, and_true] at this
      subst this
      rfl
  cases r with
  | none => exact e0 _ ha
  | some p =>
    obtain ⟨j, v, b⟩ := p
    obtain ⟨v', a1, a2, _, ⟨e, a4, a5, a6⟩, kk, a7⟩ := ha
    exact ⟨v', e0 _ a1, a2, ⟨e, by simpa using a4, a5, a6⟩, kk, by simpa using a7⟩

theorem keyOk_und {t : TypeId} {k : VV} (h : keyOk P t k = true) : ∃ d, P.underlying t = some d := by
  unfold keyOk keyPlain at h
  cases hu : P.underlying t with
  | none => simp [hu] at h
  | some d => exact ⟨d, rfl⟩

theorem Sim.map (hS : Sim G ρ S w) {x : VV} {x' : Value} {id : Nat} {es : List (VV × VV × Nat)} {c : Nat} (h : mapOfV S x = some (id, es, c)) (hx : VRel ρ x x') :
    ∃ r b n es', x = .map (some id) ∧ x' = .map (some r) ∧ ρ id = some (r, b, n) ∧ S.h.get id = some (.map es c) ∧ w.heap[r]? = some (.map es' c) ∧ ERels ρ es es'.toList := by
  unfold mapOfV at h
  cases hx <;> simp only [reduceCtorEq] at h
  rename_i id' r b n hρ
  cases ho : S.h.get id' with
  | none => simp [ho] at h
  | some o =>
    cases o <;> simp only [ho, reduceCtorEq] at h
    simp only [Option.some.injEq, Prod.mk.injEq] at h
    obtain ⟨rfl, rfl, rfl⟩ := h
    obtain ⟨r', b', n', o', h1, h2, h3⟩ := hS.obj _ _ ho
    rw [hρ] at h1
    cases h1
    cases h3 with
    | map he => exact ⟨r, b, n, _, rfl, rfl, hρ, ho, h2, he⟩

theorem r_lookup (hS : Sim G ρ S w) {t : TypeId} {x k v : VV} {x' k' : Value} {ok : Bool} (h : lookupV P S t x k ok = some v) (hx : VRel ρ x x') (hk : VRel ρ k k') : ∃ v', (Instr.lookup t x' k' ok).run P w = .ok v' w ∧ VRel ρ v v' := by
  unfold lookupV at h
  cases hu : P.underlying t with
  | none => simp [hu] at h
  | some d =>
    cases d <;> simp only [hu, reduceCtorEq] at h
    rename_i kt et
    cases hko : keyOk P kt k with
    | false => simp [hko] at h
    | true =>
      simp only [hko] at h
      -- the entries
      have hes : ∀ es, (match x with | .map none => some [] | _ => match mapOfV S x with | some (_, es, _) => some es | none => none) = some es →
          ∃ es' : Array MapEntry, ERels ρ es es'.toList ∧ ((x' = .map none ∧ es' = #[]) ∨ ∃ r c, x' = .map (some r) ∧ w.heap[r]? = some (.map es' c)) := by
        intro es he
        cases hx <;> try (simp [mapOfV] at he; done)
        case nilMap =>
          simp only [Option.some.injEq] at he
          subst he
          exact ⟨#[], .nil, .inl ⟨rfl, rfl⟩⟩
        case map id r b n hρ =>
          simp only at he
          cases hm : mapOfV S (.map (some id)) with
          | none => simp [hm] at he
          | some q =>
            obtain ⟨id', es0, c⟩ := q
            simp only [hm, Option.some.injEq] at he
            subst he
            obtain ⟨r', b', n', es', e1, e2, e3, e4, e5, e6⟩ := hS.map hm (.map hρ)
            cases e1
            cases e2
            exact ⟨es', e6, .inr ⟨r, c, rfl, e5⟩⟩
      split at h
      · cases h
      · rename_i es hes0
        obtain ⟨es', he, hx'⟩ := hes es hes0
        cases hf : findV P S kt k es 0 with
        | none => simp [hf] at h
        | some r =>
          have hfk := r_findKey hS hk hf he (keyOk_und hko)
          have hck := fun e => keyOk_run (P := P) hko hk e w
          cases r with
          | none =>
            simp only [hf] at h
            cases hz : zeroV P et with
            | none => simp [hz] at h
            | some z =>
              obtain ⟨z', rz, ez⟩ := r_zeroValue hz
              have hzr : VRel ρ z z' := by rw [ez]; exact ofValue_rel ρ z'
              simp only [hz, Option.some.injEq] at h
              subst h
              refine ⟨if ok then .tuple #[z', .bool false] else z', ?_, ?_⟩
              · rcases hx' with ⟨rfl, rfl⟩ | ⟨r, c, rfl, hr⟩
                · simp only [Instr.lookup, Sem.run_bind, r_underlying hu, Result.andThen_ok, Sem.run_pure, hck, hfk, rz]
                · simp only [Instr.lookup, Sem.run_bind, r_underlying hu, Result.andThen_ok, getObj, Sem.run, hr, Sem.run_pure, hck, hfk, rz]
              · cases ok
                · exact hzr
                · exact .tuple (.cons hzr (.cons (.bool _) .nil))
          | some p =>
            obtain ⟨j, vv, b⟩ := p
            simp only [hf, Option.some.injEq] at h
            subst h
            obtain ⟨v', a1, a2, _, _⟩ := hfk
            refine ⟨if ok then .tuple #[v', .bool true] else v', ?_, ?_⟩
            · rcases hx' with ⟨rfl, rfl⟩ | ⟨r, c, rfl, hr⟩
              · simp only [Instr.lookup, Sem.run_bind, r_underlying hu, Result.andThen_ok, Sem.run_pure, hck, a1]
              · simp only [Instr.lookup, Sem.run_bind, r_underlying hu, Result.andThen_ok, getObj, Sem.run, hr, Sem.run_pure, hck, a1]
            · cases ok
              · exact a2
              · exact .tuple (.cons a2 (.cons (.bool _) .nil))

end Go.Vm
