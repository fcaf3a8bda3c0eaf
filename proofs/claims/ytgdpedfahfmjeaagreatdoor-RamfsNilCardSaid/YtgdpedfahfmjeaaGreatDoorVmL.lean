/-
  A virtual semantics of the model's code (12): the rest of the operations that leave the state as it is.
-/
import Derived.Test.YtgdpedfahfmjeaaGreatDoorVmK
namespace Go.Vm
variable {P : Program} {G : Nat} {ρ : Ren} {S : St} {w : World}

theorem r_extract {x v : VV} {x' : Value} {i : Nat} (h : extractV x i = some v) (hx : VRel ρ x x') (w : World) : ∃ v', (Instr.extract x' i).run P w = .ok v' w ∧ VRel ρ v v' := by
  unfold extractV at h
  cases hx <;> simp only [reduceCtorEq] at h
  rename_i cs cs' hc
  obtain ⟨v', e1, e2⟩ := hc.get h
  have e1' : cs'[i]? = some v' := by simpa using e1
  exact ⟨v', by simp [Instr.extract, e1'], e2⟩

theorem r_un {op : UnOp} {x v : VV} {x' : Value} (h : unV op x = some v) (hx : VRel ρ x x') (w : World) : ∃ v', (Op.unary op x').run P w = .ok v' w ∧ VRel ρ v v' := by
  cases hx <;> cases op <;> simp only [unV, reduceCtorEq, Option.some.injEq] at h
  case bool.not b => subst h; exact ⟨_, rfl, .bool _⟩
  case int.neg k n => simp only [intOpV, Option.some.injEq] at h; subst h; exact ⟨_, rfl, .int _ _⟩
  case int.xor k n => simp only [intOpV, Option.some.injEq] at h; subst h; exact ⟨_, rfl, .int _ _⟩

theorem isConst_of {x : Operand} (h : isConstO x = true) : ∃ v, x = .const v := by
  cases x with
  | const v => exact ⟨v, rfl⟩
  | tmp t => cases h
  | global g => cases h
  | func f => cases h

theorem r_eqlNeq (hS : Sim G ρ S w) {op : BinOp} {t : TypeId} {a b v : VV} {a' b' : Value} (ha : VRel ρ a a') (hb : VRel ρ b b')
    (hl : (binOp .eql t a' b').run P w = ((Op.equal t a' b').run P w).andThen fun r w' => .ok (.bool r) w')
    (hn : (binOp .neq t a' b').run P w = ((Op.equal t a' b').run P w).andThen fun r w' => .ok (.bool (!r)) w')
    (h : (match op with
      | .eql => match eqV P S eqDepth t a b with
        | some r => some (.bool r)
        | none => none
      | .neq => match eqV P S eqDepth t a b with
        | some r => some (.bool (!r))
        | none => none
      | _ => none) = some v) : (op = .eql ∨ op = .neq) ∧ ∃ v', (binOp op t a' b').run P w = .ok v' w ∧ VRel ρ v v' := by
  cases op <;> simp only [reduceCtorEq] at h
  case eql =>
    refine ⟨.inl rfl, ?_⟩
    cases he : eqV P S eqDepth t a b with
    | none => simp [he] at h
    | some r =>
      simp only [he, Option.some.injEq] at h
      subst h
      have := r_eqV hS eqDepth t a b r a' b' he ha hb
      exact ⟨.bool r, by rw [hl, Op.equal]; rw [show Op.maxDepth = eqDepth from rfl, this]; rfl, .bool r⟩
  case neq =>
    refine ⟨.inr rfl, ?_⟩
    cases he : eqV P S eqDepth t a b with
    | none => simp [he] at h
    | some r =>
      simp only [he, Option.some.injEq] at h
      subst h
      have := r_eqV hS eqDepth t a b r a' b' he ha hb
      exact ⟨.bool (!r), by rw [hn, Op.equal]; rw [show Op.maxDepth = eqDepth from rfl, this]; rfl, .bool (!r)⟩

set_option maxHeartbeats 4000000 in
theorem r_bin (hS : Sim G ρ S w) {op : BinOp} {t : TypeId} {x y : Operand} {a b v : VV} {a' b' : Value} (h : binV P S op t x y a b = some v) (ha : VRel ρ a a') (hb : VRel ρ b b') :
    ∃ v', (do eqGuard op t x y a' b'; binOp op t a' b' : Sem Value).run P w = .ok v' w ∧ VRel ρ v v' := by
  have hb0 := hb
  have ha0 := ha
  cases ha <;> cases hb <;> simp only [binV, reduceCtorEq] at h
  case int.int k m k' n =>
    have hg : (eqGuard op t x y (.int k m) (.int k' n)).run P w = .ok () w := by cases op <;> simp [eqGuard]
    cases op
    case shl => obtain ⟨v', e1, e2⟩ := r_shift (P := P) (k' := k') t h w; exact ⟨v', by simp only [Sem.run_bind, hg, Result.andThen_ok, e1], e2 ρ⟩
    case shr => obtain ⟨v', e1, e2⟩ := r_shift (P := P) (k' := k') t h w; exact ⟨v', by simp only [Sem.run_bind, hg, Result.andThen_ok, e1], e2 ρ⟩
    all_goals
      simp only at h
      split at h
      · rename_i hk
        subst hk
        obtain ⟨v', e1, e2⟩ := r_intOp (P := P) t h w
        exact ⟨v', by simp only [Sem.run_bind, hg, Result.andThen_ok, e1], e2 ρ⟩
      · cases h
  case str.str s u =>
    have hg : (eqGuard op t x y (.string s) (.string u)).run P w = .ok () w := by cases op <;> simp [eqGuard]
    obtain ⟨v', e1, e2⟩ := r_strOp (P := P) t h w
    exact ⟨v', by simp only [Sem.run_bind, hg, Result.andThen_ok, e1], e2 ρ⟩
  case nilIface.nilIface =>
    split at h
    · rename_i hc
      obtain ⟨_, v', e1, e2⟩ := r_eqlNeq hS ha0 hb0 (by simp only [binOp, Sem.run_bind, Sem.run_pure]) (by simp only [binOp, Sem.run_bind, Sem.run_pure]) h
      have hg : (eqGuard op t x y .nilIface .nilIface).run P w = .ok () w := by
        rw [Bool.or_eq_true] at hc
        rcases hc with q | q
        · obtain ⟨u, rfl⟩ := isConst_of q
          cases op <;> simp [eqGuard]
        · obtain ⟨u, rfl⟩ := isConst_of q
          cases op <;> simp [eqGuard]
      exact ⟨v', by simp only [Sem.run_bind, hg, Result.andThen_ok, e1], e2⟩
    · cases h
  case agg.agg cs cs' hcs ds ds' hds =>
    split at h
    · cases h
    · rename_i hc
      obtain ⟨_, v', e1, e2⟩ := r_eqlNeq hS ha0 hb0 (by simp only [binOp, Sem.run_bind, Sem.run_pure]) (by simp only [binOp, Sem.run_bind, Sem.run_pure]) h
      have hg := run_eqGuard_agg (P := P) w op t x y cs' ds' (by simpa using hc)
      exact ⟨v', by simp only [Sem.run_bind, hg, Result.andThen_ok, e1], e2⟩
  all_goals
    obtain ⟨hop, v', e1, e2⟩ := r_eqlNeq hS ha0 hb0 (by simp only [binOp, Sem.run_bind, Sem.run_pure]) (by simp only [binOp, Sem.run_bind, Sem.run_pure]) h
    refine ⟨v', ?_, e2⟩
    rcases hop with rfl | rfl <;> simp only [eqGuard, Sem.run_bind] <;> first | exact e1 | (simp; exact e1)

theorem r_makeInterface {t : TypeId} {x v : VV} {x' : Value} (h : makeInterfaceV P t x = some v) (hx : VRel ρ x x') (w : World) : ∃ v', (Instr.makeInterface t x').run P w = .ok v' w ∧ VRel ρ v v' := by
  unfold makeInterfaceV at h
  cases hu : P.underlying t with
  | none => simp [hu] at h
  | some d =>
    cases d <;> simp only [hu, Option.some.injEq, reduceCtorEq] at h <;> (subst h; exact ⟨.iface t x', by simp [Instr.makeInterface, r_underlying hu], .iface t hx⟩)

theorem r_len (hS : Sim G ρ S w) {ts : List TypeId} {args : List VV} {args' : Array Value} {v : VV} (t : TypeId) (h : lenV P S ts args = some v) (ha : VRels ρ args args'.toList) : ∃ v', (Builtin.len_ ts.toArray t args').run P w = .ok v' w ∧ VRel ρ v v' := by
  unfold lenV at h
  split at h
  · rename_i t0 x
    obtain ⟨args'⟩ := args'
    change VRels ρ _ args' at ha
    cases ha with
    | cons hx ht =>
      cases ht
      cases hu : P.underlying t0 with
      | none => simp [hu] at h
      | some d =>
        cases d <;> simp only [hu, reduceCtorEq] at h
        case string =>
          cases hx <;> try (simp only [reduceCtorEq] at h; done)
          simp only [Option.some.injEq] at h
          subst h
          exact ⟨_, by simp [Builtin.len_, r_underlying hu, goInt], .int _ _⟩
        case array n e =>
          simp only [Option.some.injEq] at h
          subst h
          exact ⟨goInt n, by simp [Builtin.len_, r_underlying hu], .int _ _⟩
        case slice e =>
          cases hx <;> try (simp only [reduceCtorEq] at h; done)
          all_goals
            simp only [Option.some.injEq] at h
            subst h
            exact ⟨goInt _, by simp [Builtin.len_, r_underlying hu], .int _ _⟩
        case map k e =>
          cases hx <;> try (simp [mapOfV] at h; done)
          case nilMap =>
            simp only [Option.some.injEq] at h
            subst h
            exact ⟨goInt 0, by simp [Builtin.len_, r_underlying hu], .int _ _⟩
          case map id r b n hρ =>
            simp only [mapOfV] at h
            cases ho : S.h.get id with
            | none => simp [ho] at h
            | some o =>
              cases o <;> simp only [ho, reduceCtorEq] at h
              rename_i es clock
              simp only [Option.some.injEq] at h
              subst h
              obtain ⟨r', b', n', o', h1, h2, h3⟩ := hS.obj id _ ho
              rw [hρ] at h1
              cases h1
              cases h3 with
              | map he =>
                rename_i es'
                have hl : es'.size = es.length := by
                  have : ∀ {l : List (VV × VV × Nat)} {l' : List MapEntry}, ERels ρ l l' → l'.length = l.length := by
                    intro l l' hh
                    induction hh with
                    | nil => rfl
                    | cons _ _ _ ih => simp [ih]
                  simpa using this he
                exact ⟨goInt es'.size, by simp [Builtin.len_, r_underlying hu, getObj, Sem.run, h2], by rw [hl]; exact .int _ _⟩
  · cases h

theorem r_cap {ts : List TypeId} {args : List VV} {args' : Array Value} {v : VV} (t : TypeId) (h : capV P ts args = some v) (ha : VRels ρ args args'.toList) (w : World) : ∃ v', (Builtin.cap_ ts.toArray t args').run P w = .ok v' w ∧ VRel ρ v v' := by
  unfold capV at h
  split at h
  · rename_i t0 x
    obtain ⟨args'⟩ := args'
    change VRels ρ _ args' at ha
    cases ha with
    | cons hx ht =>
      cases ht
      cases hu : P.underlying t0 with
      | none => simp [hu] at h
      | some d =>
        cases d <;> simp only [hu, reduceCtorEq] at h
        case array n e =>
          simp only [Option.some.injEq] at h
          subst h
          exact ⟨goInt n, by simp [Builtin.cap_, r_underlying hu], .int _ _⟩
        case slice e =>
          cases hx <;> try (simp only [reduceCtorEq] at h; done)
          all_goals
            simp only [Option.some.injEq] at h
            subst h
            exact ⟨goInt _, by simp [Builtin.cap_, r_underlying hu], .int _ _⟩
  · cases h

theorem r_minMax (mx : Bool) : ∀ {l : List VV} {l' : List Value} {x v : VV} {x' : Value}, minMaxV mx x l = some v → VRel ρ x x' → VRels ρ l l' → ∀ w, ∃ v',
    (if mx then l'.foldlM Builtin.max2 x' else l'.foldlM Builtin.min2 x').run P w = .ok v' w ∧ VRel ρ v v' := by
  intro l
  induction l with
  | nil =>
    intro l' x v x' h hx hl w
    cases hl
    cases hx <;> simp only [minMaxV, reduceCtorEq, Option.some.injEq] at h
    subst h
    exact ⟨.int _ _, by cases mx <;> rfl, .int _ _⟩
  | cons y l ih =>
    intro l' x v x' h hx hl w
    cases hl with
    | cons hy ht =>
      cases hx <;> try (simp [minMaxV] at h; done)
      cases hy <;> try (simp [minMaxV] at h; done)
      simp only [minMaxV] at h
      obtain ⟨v', e1, e2⟩ := ih h (.int _ _) ht w
      refine ⟨v', ?_, e2⟩
      cases mx
      · simp only [Bool.false_eq_true, if_false] at e1 ⊢
        simpa [List.foldlM_cons, Builtin.min2] using e1
      · simp only [if_true] at e1 ⊢
        simpa [List.foldlM_cons, Builtin.max2] using e1

end Go.Vm
