/-
  A virtual semantics of the model's code (9): '==' of values; types' questions.
-/
import Derived.Test.YtgdpedfahfmjeaaGreatDoorVmH
import Derived.Laws.StructEq
namespace Go.Vm
variable {P : Program} {G : Nat} {ρ : Ren} {S : St} {w : World}

/-- what an equality of a type is good for, so deep -/
def EqSound (P : Program) (ρ : Ren) (w : World) (d : Nat) (eq : TypeId → VV → VV → Option Bool) : Prop :=
  ∀ t x y r x' y', eq t x y = some r → VRel ρ x x' → VRel ρ y y' → (Op.equalIn d t x' y').run P w = .ok r w

theorem r_eqFields {d : Nat} {eq : TypeId → VV → VV → Option Bool} (he : EqSound P ρ w d eq) {xs ys : List VV} {xs' ys' : Array Value} (hx : VRels ρ xs xs'.toList) (hy : VRels ρ ys ys'.toList) :
    ∀ (fs : List Field) (r : Bool), eqFieldsV P eq xs ys fs = some r → (Op.eqFields d xs' ys' fs).run P w = .ok r w := by
  intro fs
  induction fs with
  | nil => intro r h; simp only [eqFieldsV, Option.some.injEq] at h; subst h; rfl
  | cons f fs ih =>
    intro r h
    simp only [eqFieldsV] at h
    simp only [Op.eqFields]
    by_cases hn : f.name = "_"
    · simp only [hn, ne_eq, not_true_eq_false, if_false] at h ⊢
      exact ih r h
    · simp only [hn, ne_eq, not_false_eq_true, if_true] at h ⊢
      cases ha : partV P f.type xs f.offset with
      | none => simp [ha] at h
      | some a =>
        cases hb : partV P f.type ys f.offset with
        | none => simp [ha, hb] at h
        | some b =>
          simp only [ha, hb] at h
          obtain ⟨a', ra, va⟩ := r_part ha hx w
          obtain ⟨b', rb, vb⟩ := r_part hb hy w
          simp only [Sem.run_bind, ra, rb, Result.andThen_ok]
          cases hq : eq f.type a b with
          | none => simp [hq] at h
          | some q =>
            simp only [hq] at h
            rw [he _ _ _ _ _ _ hq va vb]
            cases q with
            | true => simpa using ih r h
            | false => simp only [Option.some.injEq] at h; subst h; rfl

theorem r_eqElems {d : Nat} {eq : TypeId → VV → VV → Option Bool} (he : EqSound P ρ w d eq) {xs ys : List VV} {xs' ys' : Array Value} (hx : VRels ρ xs xs'.toList) (hy : VRels ρ ys ys'.toList) {e : TypeId} {z : Nat} :
    ∀ (n i : Nat) (r : Bool), eqElemsV P eq e z xs ys n i = some r →
      (forIn (m := Sem) (List.range' i n) ((none, ()) : Option Bool × Unit) fun i _ => do
        let a ← part e xs' (i * z)
        let b ← part e ys' (i * z)
        let c ← Op.equalIn d e a b
        if (!c) = true then pure (.done (some false, ())) else pure (.yield (none, ()))).run P w = .ok ((if r then none else some false, ()) : Option Bool × Unit) w := by
  intro n
  induction n with
  | zero => intro i r h; simp only [eqElemsV, Option.some.injEq] at h; subst h; rfl
  | succ n ih =>
    intro i r h
    simp only [eqElemsV] at h
    cases ha : partV P e xs (i * z) with
    | none => simp [ha] at h
    | some a =>
      cases hb : partV P e ys (i * z) with
      | none => simp [ha, hb] at h
      | some b =>
        simp only [ha, hb] at h
        obtain ⟨a', ra, va⟩ := r_part ha hx w
        obtain ⟨b', rb, vb⟩ := r_part hb hy w
        simp only [List.range'_succ, List.forIn_cons, Sem.run_bind, ra, rb, Result.andThen_ok]
        cases hq : eq e a b with
        | none => simp [hq] at h
        | some q =>
          simp only [hq] at h
          rw [he _ _ _ _ _ _ hq va vb]
          cases q with
          | true => simpa using ih (i + 1) r h
          | false => simp only [Option.some.injEq] at h; subst h; rfl

set_option maxHeartbeats 2000000 in
theorem r_eqV (hS : Sim G ρ S w) : ∀ d, EqSound P ρ w d (eqV P S d) := by
  intro d
  induction d with
  | zero => intro t x y r x' y' h; simp [eqV] at h
  | succ d ih =>
    intro t x y r x' y' h hx hy
    simp only [eqV] at h
    cases hu : P.underlying t with
    | none => simp [hu] at h
    | some ty =>
      cases ty <;> simp only [hu, reduceCtorEq] at h
      case bool =>
        cases hx <;> cases hy <;> simp only [Option.some.injEq, reduceCtorEq] at h
        subst h
        simp [Op.equalIn, r_underlying hu]
      case int k =>
        cases hx <;> cases hy <;> simp only [reduceCtorEq] at h
        split at h
        · rename_i hk
          simp only [Option.some.injEq] at h
          subst h
          simp [Op.equalIn, r_underlying hu, hk]
        · cases h
      case string =>
        cases hx <;> cases hy <;> simp only [Option.some.injEq, reduceCtorEq] at h
        subst h
        rename_i a b
        simp [Op.equalIn, r_underlying hu, strEq_eq, beq_toListBytes, ByteArray.toList_eq]
      case pointer e =>
        cases hx <;> cases hy <;> simp only [Option.some.injEq, reduceCtorEq] at h
        · subst h; simp [Op.equalIn, r_underlying hu]
        · subst h; simp [Op.equalIn, r_underlying hu]
        · subst h; simp [Op.equalIn, r_underlying hu]
        · rename_i id r1 b1 n1 off h1 id' r2 b2 n2 off' h2
          cases hz : sizeV P e with
          | none => simp [hz] at h
          | some z =>
            cases z with
            | zero => simp [hz] at h
            | succ z =>
              simp only [hz] at h
              simp only [Op.equalIn, Sem.run_bind, r_underlying hu, Result.andThen_ok, r_sizeOf hz, ne_eq, Nat.succ_ne_zero, not_false_eq_true, if_true, Nat.add_eq_zero_iff, Nat.one_ne_zero, and_false]
              by_cases e1 : id = id'
              · subst e1
                rw [h1] at h2
                cases h2
                simp only [if_true, Option.some.injEq] at h
                subst h
                have e3 : ((⟨r1, b1 + off, none⟩ : Addr) == ⟨r1, b1 + off', none⟩) = (off == off') := by
                  by_cases e2 : off = off'
                  · subst e2; simp
                  · have : (⟨r1, b1 + off, none⟩ : Addr) ≠ ⟨r1, b1 + off', none⟩ := fun x => e2 (by injection x with _ x; omega)
                    rw [beq_eq_false_iff_ne.2 this, beq_eq_false_iff_ne.2 e2]
                simp [sameAddr, e3]
              · simp only [e1, if_false] at h
                cases ha : apartV S id id' with
                | false => simp [ha] at h
                | true =>
                  simp only [ha, if_true, Option.some.injEq] at h
                  subst h
                  exact r_sameAddr off off' hS h1 h2 e1 ha
      case slice e =>
        cases hx <;> cases hy <;> simp only [Option.some.injEq, reduceCtorEq] at h <;> subst h <;> simp [Op.equalIn, r_underlying hu]
      case map k e =>
        cases hx <;> cases hy <;> simp only [Option.some.injEq, reduceCtorEq] at h <;> subst h <;> simp [Op.equalIn, r_underlying hu]
      case func a b c =>
        cases hx <;> cases hy <;> simp only [Option.some.injEq, reduceCtorEq] at h <;> subst h <;> simp [Op.equalIn, r_underlying hu]
      case interface ms =>
        cases hx <;> cases hy <;> simp only [Option.some.injEq, reduceCtorEq] at h
        · rename_i tx vx vx' hvx ty vy vy' hvy
          by_cases e1 : tx = ty
          · subst e1
            simp only [ne_eq, not_true_eq_false, if_false] at h
            cases hi : P.info? tx with
            | none => simp [hi] at h
            | some i =>
              simp only [hi] at h
              split at h
              · rename_i hc
                simp only [Op.equalIn, Sem.run_bind, r_underlying hu, Result.andThen_ok, ne_eq, not_true_eq_false, if_false, r_typeInfo hi, hc, Bool.not_true, Bool.false_eq_true, Sem.run_pure]
                exact ih _ _ _ _ _ _ h hvx hvy
              · cases h
          · simp only [ne_eq, e1, not_false_eq_true, if_true, Option.some.injEq] at h
            subst h
            simp [Op.equalIn, r_underlying hu, e1]
        · subst h; simp [Op.equalIn, r_underlying hu]
        · subst h; simp [Op.equalIn, r_underlying hu]
        · subst h; simp [Op.equalIn, r_underlying hu]
      case struct fields =>
        cases hx <;> cases hy <;> simp only [reduceCtorEq] at h
        rename_i xs xs' hxs ys ys' hys
        cases hp : P.stoodInHeld t with
        | true => simp [hp] at h
        | false =>
          simp only [hp, Bool.false_eq_true, if_false] at h
          have hf : P.fieldsOf t = fields := by simp [Program.fieldsOf, hu]
          rw [run_equalIn_struct w d t xs' ys' (by rw [hf]; exact hu) hp, hf]
          exact r_eqFields ih hxs hys _ _ h
      case array n e =>
        cases hx <;> cases hy <;> simp only [reduceCtorEq] at h
        rename_i xs xs' hxs ys ys' hys
        cases hz : sizeV P e with
        | none => simp [hz] at h
        | some z =>
          simp only [hz] at h
          have := r_eqElems ih hxs hys n 0 r h
          simp only [Op.equalIn, Sem.run_bind, r_underlying hu, Result.andThen_ok, r_sizeOf hz, Std.Legacy.Range.forIn_eq_forIn_range', Std.Legacy.Range.size]
          simp only [Nat.sub_zero, Nat.add_sub_cancel, Nat.div_one]
          rw [this]
          cases r <;> simp

end Go.Vm
