/-
  What is proved here: regions that draw their order; the evaluator is sound. No condition.
-/
import Derived.Test.YtgdpedfahfmjeaaDoorMd
import Derived.Lib.Bytealg
import GoSem.ClaimChange

/-
  A virtual semantics of the model's code (29): what a region's order of ours says of every other.
-/
namespace Go.Vm
variable {P : Program} {ov : Ov} {r : Rec} {ops : Array Oper} {fr : Fr} {S0 : St}

theorem VV.same_eq (a : VV) : ∀ b, VV.same a b = true → a = b := by
  refine VV.rec (motive_1 := fun a => ∀ b, VV.same a b = true → a = b) (motive_2 := fun l => ∀ m, VV.same.sameL l m = true → l = m) ?_ ?_ ?_ ?_ ?_ ?_ ?_ ?_ ?_ ?_ ?_ ?_ ?_ ?_ ?_ a
  · intro b h; cases b <;> simp [VV.same] at h
  · intro x b h; cases b <;> simp_all [VV.same]
  · intro k x b h; cases b <;> simp_all [VV.same]
  · intro x b h
    cases b <;> first | (simp [VV.same] at h; done) | (simp only [VV.same] at h; rw [strEq_eq, beq_iff_eq] at h; rw [h])
  · intro x b h
    cases b with
    | ptr y =>
      cases x with
      | none => cases y with
        | none => rfl
        | some y => simp [VV.same] at h
      | some x => cases y with
        | none => simp [VV.same] at h
        | some y =>
          simp only [VV.same, Bool.and_eq_true] at h
          rw [show x = y from Prod.ext (Nat.eq_of_beq_eq_true h.1) (Nat.eq_of_beq_eq_true h.2)]
    | _ => cases x <;> simp [VV.same] at h
  · intro x n c b h
    cases b with
    | slice y n' c' =>
      simp only [VV.same, Bool.and_eq_true, decide_eq_true_eq] at h
      rw [h.1.1, Nat.eq_of_beq_eq_true h.1.2, h.2]
    | _ => simp [VV.same] at h
  · intro x b h; cases b <;> simp_all [VV.same]
  · intro f x c hx hc b h
    cases b with
    | func g y d =>
      cases x with
      | cons _ _ => cases y <;> simp [VV.same] at h
      | nil => cases y with
        | cons _ _ => simp [VV.same] at h
        | nil =>
          simp only [VV.same, Bool.and_eq_true, decide_eq_true_eq] at h
          rw [h.1, hc _ h.2]
    | _ => cases x <;> simp [VV.same] at h
  · intro b h; cases b <;> simp_all [VV.same]
  · intro t v _ b h; cases b <;> simp [VV.same] at h
  · intro b h; cases b <;> simp_all [VV.same]
  · intro l hl b h
    cases b <;> first | (simp [VV.same] at h; done) | (simp only [VV.same] at h; rw [hl _ h])
  · intro l hl b h
    cases b <;> first | (simp [VV.same] at h; done) | (simp only [VV.same] at h; rw [hl _ h])
  · intro m h; cases m <;> simp_all [VV.same.sameL]
  · intro v l hv hl m h
    cases m with
    | nil => simp [VV.same.sameL] at h
    | cons u m =>
      simp only [VV.same.sameL, Bool.and_eq_true] at h
      rw [hv _ h.1, hl _ h.2]

theorem stableV_eq {e : Operand → VV} {op : Op} {v : VV} {S : St} (h : stableV P e op v S = true) : ∃ S', simpleV P e S op = some (v, S') := by
  unfold stableV at h
  cases hs : simpleV P e S op with
  | none => simp [hs] at h
  | some q =>
    obtain ⟨u, S'⟩ := q
    simp only [hs] at h
    rw [← VV.same_eq _ _ h]
    exact ⟨S', rfl⟩

theorem readsHold_spec {b : Array Nat} {vals : Tr VV} {i : Nat} {S : St} : ∀ {l : List (Nat × VV)}, readsHold P ops b fr vals i S l = true → ∀ q v, (q, v) ∈ l → freeV b q i = true →
    ∃ o, ops[q]? = some o ∧ stableV P (drawEv P.globals.size ops b fr vals q) o.op v S = true
  | [], _, q, v, hm, _ => by cases hm
  | (q', v') :: l, h, q, v, hm, hf => by
    simp only [readsHold, Bool.and_eq_true] at h
    rcases List.mem_cons.1 hm with e | hm
    · simp only [Prod.mk.injEq] at e
      obtain ⟨rfl, rfl⟩ := e
      have h1 := h.1
      simp only [hf] at h1
      cases ho : ops[q]? with
      | none => simp [ho] at h1
      | some o => simp only [ho] at h1; exact ⟨o, rfl, h1⟩
    · exact readsHold_spec h.2 q v hm hf

theorem holdsAt_spec {e : Operand → VV} {op : Op} {v : VV} {b : Array Nat} {i : Nat} : ∀ {l : List (Nat × St × St)}, holdsAt P e op v b i l = true → ∀ x ∈ l, freeV b x.1 i = true → stableV P e op v x.2.1 = true ∧ stableV P e op v x.2.2 = true
  | [], _, x, hm, _ => by cases hm
  | (j, s, s') :: l, h, x, hm, hf => by
    simp only [holdsAt, Bool.and_eq_true] at h
    rcases List.mem_cons.1 hm with rfl | hm
    · have h1 := h.1
      simp only [hf, Bool.and_eq_true] at h1
      exact h1
    · exact holdsAt_spec h.2 x hm hf

def endOf (S0 : St) (D : List (Nat × St × St)) : St := match D.getLast? with
  | some x => x.2.2
  | none => S0

@[simp] theorem endOf_nil (S0 : St) : endOf S0 [] = S0 := rfl
@[simp] theorem endOf_snoc (S0 : St) (D : List (Nat × St × St)) (x : Nat × St × St) : endOf S0 (D ++ [x]) = x.2.2 := by simp [endOf]

def ValsIn (vals : Tr VV) (F : Nat → Option VV) : Prop := ∀ j v, vals.get j = some v → F j = some v

/-- what is known of an operation -/
def Fact (P : Program) (ov : Ov) (r : Rec) (ops : Array Oper) (fr : Fr) (S0 : St) (F : Nat → Option VV) (D : List (Nat × St × St)) (Rd : List (Nat × VV)) (i : Nat) : Prop :=
  ∃ o vals, ops[i]? = some o ∧ ValsIn vals F ∧
    ((wantedV ops o (fun d => drawLook ops (Region.before ops) fr vals i d) = some false ∧ F i = some undefV ∧ ∀ x ∈ D, x.1 ≠ i) ∨
     (wantedV ops o (fun d => drawLook ops (Region.before ops) fr vals i d) = some true ∧ kindOf P o.op = 2 ∧ ∃ v S1 S2, (i, S1, S2) ∈ D ∧
        effectV P ov r (drawEv P.globals.size ops (Region.before ops) fr vals i) o.op S1 = some (.returned v, S2) ∧ F i = some v) ∨
     (wantedV ops o (fun d => drawLook ops (Region.before ops) fr vals i d) = some true ∧ kindOf P o.op ≠ 2 ∧ (∀ x ∈ D, x.1 ≠ i) ∧ ∃ v, F i = some v ∧ (i, v) ∈ Rd ∧
        ∀ D1 D2, D = D1 ++ D2 → (∀ x ∈ D1, ¬ befB (Region.before ops) i x.1 = true) → (∀ x ∈ D2, ¬ befB (Region.before ops) x.1 i = true) →
          ∃ vals', ValsIn vals' F ∧ ∃ S', simpleV P (drawEv P.globals.size ops (Region.before ops) fr vals' i) (endOf S0 D1) o.op = some (v, S')))

structure Canon (P : Program) (ov : Ov) (r : Rec) (ops : Array Oper) (fr : Fr) (S0 : St) (C : List Nat) (F : Nat → Option VV) (D : List (Nat × St × St)) (Rd : List (Nat × VV)) : Prop where
  keys : ∀ x ∈ D, x.1 ∈ C
  chain : ∀ D1 x D2, D = D1 ++ x :: D2 → x.2.1 = endOf S0 D1
  ord : D.Pairwise fun x y => befB (Region.before ops) x.1 y.1 = true
  kind : ∀ x ∈ D, ∃ o, ops[x.1]? = some o ∧ kindOf P o.op = 2
  fact : ∀ i ∈ C, Fact P ov r ops fr S0 F D Rd i
  dom : ∀ i v, F i = some v → i ∈ C

/-- one more operation without an effect, or none -/
theorem Fact.mono {F F' : Nat → Option VV} {D : List (Nat × St × St)} {Rd Rd' : List (Nat × VV)} {i : Nat} (hF : ∀ j v, F j = some v → F' j = some v) (hR : ∀ x ∈ Rd, x ∈ Rd') (h : Fact P ov r ops fr S0 F D Rd i) : Fact P ov r ops fr S0 F' D Rd' i := by
  obtain ⟨o, vals, h1, h2, h3⟩ := h
  refine ⟨o, vals, h1, fun j v q => hF _ _ (h2 j v q), ?_⟩
  rcases h3 with ⟨a, b, c⟩ | ⟨a, b, v, S1, S2, c, d, e⟩ | ⟨a, b, c, v, d, e, f⟩
  · exact .inl ⟨a, hF _ _ b, c⟩
  · exact .inr (.inl ⟨a, b, v, S1, S2, c, d, hF _ _ e⟩)
  · refine .inr (.inr ⟨a, b, c, v, hF _ _ d, hR _ e, fun D1 D2 q1 q2 q3 => ?_⟩)
    obtain ⟨vals', x1, x2⟩ := f D1 D2 q1 q2 q3
    exact ⟨vals', fun j v q => hF _ _ (x1 j v q), x2⟩

/-- one more effect: those that are free of it hold behind it -/
theorem Fact.more {F F' : Nat → Option VV} {D : List (Nat × St × St)} {Rd : List (Nat × VV)} {i : Nat} {x : Nat × St × St} (hF : ∀ j v, F j = some v → F' j = some v) (hne : x.1 ≠ i)
    (hb : ¬ befB (Region.before ops) x.1 i = true)
    (hold : ∀ v, (i, v) ∈ Rd → freeV (Region.before ops) i x.1 = true → ∃ o vals, ops[i]? = some o ∧ ValsIn vals F ∧ stableV P (drawEv P.globals.size ops (Region.before ops) fr vals i) o.op v x.2.2 = true)
    (h : Fact P ov r ops fr S0 F D Rd i) : Fact P ov r ops fr S0 F' (D ++ [x]) Rd i := by
  obtain ⟨o, vals, h1, h2, h3⟩ := h
  refine ⟨o, vals, h1, fun j v q => hF _ _ (h2 j v q), ?_⟩
  have hk : (∀ y ∈ D, y.1 ≠ i) → ∀ y ∈ D ++ [x], y.1 ≠ i := fun q y hy => by
    rcases List.mem_append.1 hy with hy | hy
    · exact q y hy
    · rw [List.mem_singleton.1 hy]; exact hne
  rcases h3 with ⟨a, b, c⟩ | ⟨a, b, v, S1, S2, c, d, e⟩ | ⟨a, b, c, v, d, e, f⟩
  · exact .inl ⟨a, hF _ _ b, hk c⟩
  · exact .inr (.inl ⟨a, b, v, S1, S2, List.mem_append_left _ c, d, hF _ _ e⟩)
  · refine .inr (.inr ⟨a, b, hk c, v, hF _ _ d, e, fun D1 D2 q1 q2 q3 => ?_⟩)
    rcases List.eq_nil_or_concat D2 with rfl | ⟨D2', y, rfl⟩
    · rw [List.append_nil] at q1
      subst q1
      have h4 := q2 x (by simp)
      obtain ⟨o', vals', x1, x2, x3⟩ := hold v e (by simp [freeV, h4, hb])
      rw [h1] at x1
      cases x1
      rw [endOf_snoc]
      exact ⟨vals', fun j v q => hF _ _ (x2 j v q), stableV_eq x3⟩
    · rw [List.concat_eq_append, ← List.append_assoc] at q1
      obtain ⟨rfl, q5⟩ := List.append_inj' q1 rfl
      obtain ⟨vals', x1, x2⟩ := f D1 D2' rfl q2 fun z hz => q3 z (by simp [hz])
      exact ⟨vals', fun j v q => hF _ _ (x1 j v q), x2⟩

/-- how a region's order of ours ends -/
def CanonEnd (P : Program) (ov : Ov) (r : Rec) (ops : Array Oper) (fr : Fr) (S0 : St) (cl C : List Nat) (F : Nat → Option VV) (D : List (Nat × St × St)) (L : CodeR) : Prop :=
  (C = cl ∧ ∃ vals : Tr VV, (∀ i v, vals.get i = some v → F i = some v) ∧ L = [(.normal, { fr with t := drawEnd ops.toList vals fr.t 0 }, endOf S0 D)]) ∨
  (∃ i R ch S' o vals, cl = C ++ i :: R ∧ ops[i]? = some o ∧ ValsIn vals F ∧ wantedV ops o (fun d => drawLook ops (Region.before ops) fr vals i d) = some true ∧ kindOf P o.op = 2 ∧
    effectV P ov r (drawEv P.globals.size ops (Region.before ops) fr vals i) o.op (endOf S0 D) = some (.panicked ch, S') ∧ (∀ j ∈ R, befB (Region.before ops) i j = true) ∧
    L = [(.panic ch, { fr with t := drawLost ops.toList fr.t }, S')])

theorem drawGo_canon (hok : DrawOk P ops) : ∀ (l C : List Nat) (s : DrawSt) (L : CodeR), drawGo P ov r ops (Region.before ops) fr l s = some L → Canon P ov r ops fr S0 C s.vals.get s.done.reverse s.reads → endOf S0 s.done.reverse = s.S →
    (C ++ l).Nodup → ((C ++ l).Pairwise fun i j => ¬ befB (Region.before ops) j i = true) → ∃ C' F D Rd, Canon P ov r ops fr S0 C' F D Rd ∧ CanonEnd P ov r ops fr S0 (C ++ l) C' F D L := by
  intro l
  induction l with
  | nil =>
    intro C s L h hC he _ _
    simp only [drawGo, Option.some.injEq] at h
    subst h
    exact ⟨C, s.vals.get, s.done.reverse, s.reads, hC, .inl ⟨by simp, s.vals, fun _ _ q => q, by rw [he]⟩⟩
  | cons i l ih =>
    intro C s L h hC he hnd hpw
    have hiC : i ∉ C := fun q => by
      have := (List.nodup_append.1 hnd).2.2 i q i (by simp)
      exact this rfl
    have hbC : ∀ j ∈ C, ¬ befB (Region.before ops) i j = true := fun j hj => (List.pairwise_append.1 hpw).2.2 j hj i (by simp)
    have hvi : s.vals.get i = none := by
      cases hq : s.vals.get i with
      | none => rfl
      | some v => exact absurd (hC.dom i v hq) hiC
    have grow : ∀ v j u, s.vals.get j = some u → (s.vals.set i v).get j = some u := fun v j u hj => by
      rw [Tr.get_set]
      by_cases e : j = i
      · subst e; rw [hvi] at hj; cases hj
      · rw [if_neg e]; exact hj
    have dom' : ∀ v j u, (s.vals.set i v).get j = some u → j ∈ C ++ [i] := fun v j u hj => by
      rw [Tr.get_set] at hj
      by_cases e : j = i
      · simp [e]
      · rw [if_neg e] at hj; simp [hC.dom j u hj]
    have hass : (C ++ [i]) ++ l = C ++ i :: l := by simp
    have hkeys : ∀ x ∈ s.done.reverse, x.1 ≠ i := fun x hx e => hiC (e ▸ hC.keys x hx)
    simp only [drawGo] at h
    cases ho : ops[i]? with
    | none => simp [ho] at h
    | some o =>
      simp only [ho] at h
      cases hw : wantedV ops o (fun d => drawLook ops (Region.before ops) fr s.vals i d) with
      | none => simp [hw] at h
      | some q =>
        cases q with
        | false =>
          simp only [hw] at h
          have := ih (C ++ [i]) { s with vals := s.vals.set i undefV } L h ⟨fun x hx => by simp [hC.keys x hx], hC.chain, hC.ord, hC.kind, ?_, dom' _⟩ he (by rw [hass]; exact hnd) (by rw [hass]; exact hpw)
          · rw [hass] at this
            exact this
          · intro j hj
            rcases List.mem_append.1 hj with hj | hj
            · exact (hC.fact j hj).mono (grow _) fun _ q => q
            · rw [List.mem_singleton.1 hj]
              exact ⟨o, s.vals, ho, fun j u q => grow _ j u q, .inl ⟨hw, by simp, hkeys⟩⟩
        | true =>
          simp only [hw] at h
          by_cases hk : kindOf P o.op = 2
          · simp only [hk] at h
            cases hef : effectV P ov r (drawEv P.globals.size ops (Region.before ops) fr s.vals i) o.op s.S with
            | none => simp [hef] at h
            | some q =>
              obtain ⟨e, S'⟩ := q
              cases e with
              | panicked ch =>
                simp only [hef] at h
                cases hl : l.all (befB (Region.before ops) i) with
                | false => simp [hl] at h
                | true =>
                  simp only [hl, Option.some.injEq] at h
                  exact ⟨C, s.vals.get, s.done.reverse, s.reads, hC, .inr ⟨i, l, ch, S', o, s.vals, rfl, ho, fun _ _ q => q, hw, hk, by rw [he]; exact hef, fun j hj => List.all_eq_true.1 hl j hj, h.symm⟩⟩
              | returned v =>
                simp only [hef] at h
                cases hrh : readsHold P ops (Region.before ops) fr s.vals i S' s.reads with
                | false => simp [hrh] at h
                | true =>
                  simp only [hrh] at h
                  have := ih (C ++ [i]) { vals := s.vals.set i v, S := S', done := (i, s.S, S') :: s.done, reads := s.reads } L h ?_ (by simp) (by rw [hass]; exact hnd) (by rw [hass]; exact hpw)
                  · rw [hass] at this
                    exact this
                  · refine ⟨?_, ?_, ?_, ?_, ?_, dom' _⟩
                    · intro x hx
                      rw [List.reverse_cons] at hx
                      rcases List.mem_append.1 hx with hx | hx
                      · simp [hC.keys x hx]
                      · rw [List.mem_singleton.1 hx]; simp
                    · intro D1 x D2 hD
                      rw [List.reverse_cons] at hD
                      rcases List.eq_nil_or_concat D2 with rfl | ⟨D2', y, rfl⟩
                      · obtain ⟨q1, q2⟩ := List.append_inj' hD rfl
                        simp only [List.cons.injEq, and_true] at q2
                        rw [← q2, ← q1]
                        exact he.symm
                      · rw [List.concat_eq_append, ← List.cons_append, ← List.append_assoc] at hD
                        obtain ⟨q1, q2⟩ := List.append_inj' hD rfl
                        exact hC.chain D1 x D2' q1
                    · rw [List.reverse_cons, List.pairwise_append]
                      refine ⟨hC.ord, by simp, fun x hx y hy => ?_⟩
                      rw [List.mem_singleton.1 hy]
                      obtain ⟨ox, hox, hkx⟩ := hC.kind x hx
                      rcases hok.total i o ho hk x.1 ox hox hkx with e | e | e
                      · exact absurd e.symm (hkeys x hx)
                      · exact e
                      · exact absurd e (hbC x.1 (hC.keys x hx))
                    · intro x hx
                      rw [List.reverse_cons] at hx
                      rcases List.mem_append.1 hx with hx | hx
                      · exact hC.kind x hx
                      · rw [List.mem_singleton.1 hx]; exact ⟨o, ho, hk⟩
                    · intro j hj
                      rw [List.reverse_cons]
                      rcases List.mem_append.1 hj with hj | hj
                      · refine (hC.fact j hj).more (x := (i, s.S, S')) (grow _) (fun e => hiC (by rw [show i = j from e]; exact hj)) (hbC j hj) fun u hu hf => ?_
                        obtain ⟨o', q1, q2⟩ := readsHold_spec hrh j u hu hf
                        exact ⟨o', s.vals, q1, fun _ _ q => q, q2⟩
                      · rw [List.mem_singleton.1 hj]
                        exact ⟨o, s.vals, ho, fun j u q => grow _ j u q, .inr (.inl ⟨hw, hk, v, s.S, S', by simp, hef, by simp⟩)⟩
          · have h' : (match simpleV P (drawEv P.globals.size ops (Region.before ops) fr s.vals i) s.S o.op with
                | some (v, _) => match holdsAt P (drawEv P.globals.size ops (Region.before ops) fr s.vals i) o.op v (Region.before ops) i s.done with
                  | true => drawGo P ov r ops (Region.before ops) fr l { s with vals := s.vals.set i v, reads := (i, v) :: s.reads }
                  | false => none
                | none => none) = some L := by
              generalize kindOf P o.op = kd at h hk
              match kd, h, hk with
              | 0, h, _ => exact h
              | 1, h, _ => exact h
              | 2, _, hk => exact absurd rfl hk
              | n + 3, h, _ => exact h
            cases hsv : simpleV P (drawEv P.globals.size ops (Region.before ops) fr s.vals i) s.S o.op with
            | none => simp [hsv] at h'
            | some q =>
              obtain ⟨v, Sx⟩ := q
              simp only [hsv] at h'
              cases hha : holdsAt P (drawEv P.globals.size ops (Region.before ops) fr s.vals i) o.op v (Region.before ops) i s.done with
              | false => simp [hha] at h'
              | true =>
                simp only [hha] at h'
                have := ih (C ++ [i]) { s with vals := s.vals.set i v, reads := (i, v) :: s.reads } L h' ⟨fun x hx => by simp [hC.keys x hx], hC.chain, hC.ord, hC.kind, ?_, dom' _⟩ he (by rw [hass]; exact hnd) (by rw [hass]; exact hpw)
                · rw [hass] at this
                  exact this
                · intro j hj
                  rcases List.mem_append.1 hj with hj | hj
                  · exact (hC.fact j hj).mono (grow _) fun _ q => by simp [q]
                  · rw [List.mem_singleton.1 hj]
                    refine ⟨o, s.vals, ho, fun j u q => grow _ j u q, .inr (.inr ⟨hw, hk, hkeys, v, by simp, by simp, fun D1 D2 q1 q2 q3 => ⟨s.vals, fun j u q => grow _ j u q, ?_⟩⟩)⟩
                    cases D2 with
                    | nil =>
                      rw [List.append_nil] at q1
                      rw [← q1, he]
                      exact ⟨Sx, hsv⟩
                    | cons x D2 =>
                      have hx : x ∈ s.done := by
                        have : x ∈ s.done.reverse := by rw [show s.done.reverse = D1 ++ x :: D2 from q1]; simp
                        simpa using this
                      have hf : freeV (Region.before ops) x.1 i = true := by
                        have a1 := q3 x (by simp)
                        have a2 := hbC x.1 (hC.keys x (by simpa using hx))
                        simp [freeV, a1, a2]
                      rw [← hC.chain D1 x D2 q1]
                      exact stableV_eq (holdsAt_spec hha x hx hf).1

end Go.Vm

/-
  A virtual semantics of the model's code (30): regions that draw their order.
-/
namespace Go.Vm
variable {P : Program} {ov : Ov} {r : Rec} {ops : Array Oper} {fr : Fr} {S0 S : St} {ρ ρ0 : Ren} {w w0 : World}

theorem effectV_sound (hs : Sounds P ov r) {o : Oper} {e : Operand → VV} {a : Act} (he : ∀ x, VRel ρ (e x) (a.eval x)) {en : En} {S' : St} (h : effectV P ov r e o.op S = some (en, S')) (hS : Sim P.globals.size ρ S w) (c : Frame) (cs : List Frame) (hc : Plain c) :
    (∀ d, o.op ≠ .defer d) ∧ (∀ x y, o.op ≠ .select x y) ∧ ∃ ρ' w', Goes P.globals.size ρ S w ρ' S' w' ∧ Goes1 P ρ' c cs (execOp a.eval o) w w' en := by
  have simple : (match simpleV P e S o.op with
      | some (v, S) => some (En.returned v, S)
      | none => none) = some (en, S') → ∃ ρ' w', Goes P.globals.size ρ S w ρ' S' w' ∧ Goes1 P ρ' c cs (execOp a.eval o) w w' en := fun h => by
    cases hsv : simpleV P e S o.op with
    | none => simp [hsv] at h
    | some q =>
      obtain ⟨v, S1⟩ := q
      simp only [hsv, Option.some.injEq, Prod.mk.injEq] at h
      obtain ⟨rfl, rfl⟩ := h
      obtain ⟨ρ1, w1, ⟨v', hrun, hv⟩, hg, _⟩ := simpleV_sound (P := P) hS he hsv
      refine ⟨ρ1, w1, hg, v', hv, ?_⟩
      rcases hrun with hrun | ⟨hrun, rfl⟩
      · exact ⟨_, _, _, apply_value hrun, .refl _ _⟩
      · exact ⟨_, _, _, apply_skip hrun, .refl _ _⟩
  unfold effectV at h
  cases hop : o.op <;> simp only [hop, reduceCtorEq] at h
  case call cl =>
    refine ⟨by simp, by simp, ?_⟩
    have calls : (match calleeV e cl with
        | none => none
        | some (fn, args) => match callV P ov r fn args S with
          | some [(x, _, S)] => some (x, S)
          | _ => none) = some (en, S') → ∃ ρ' w', Goes P.globals.size ρ S w ρ' S' w' ∧ Goes1 P ρ' c cs (execOp a.eval o) w w' en := fun h => by
      cases hcl : calleeV e cl with
      | none => simp [hcl] at h
      | some q =>
        obtain ⟨fn, args⟩ := q
        simp only [hcl] at h
        obtain ⟨fn', first, captured, q1, q2, q3, _, q5⟩ := callee_rel (P := P) he hop hcl
        cases hcv : callV P ov r fn args S with
        | none => simp [hcv] at h
        | some l =>
          match l, hcv, h with
          | [(x, rc, S1)], hcv, h =>
            simp only [hcv, Option.some.injEq, Prod.mk.injEq] at h
            obtain ⟨rfl, rfl⟩ := h
            obtain ⟨e', rc', S2, hm, ρ1, w1, hg, hgo⟩ := callV_sound hs.rec_ hs.ov_ hs.count hs.call hcv hS q1 q2 rfl (s := execOp a.eval o) (q3 w) q5 c cs hc
            simp only [List.mem_singleton, Prod.mk.injEq] at hm
            obtain ⟨rfl, rfl, rfl⟩ := hm
            exact ⟨ρ1, w1, hg, hgo⟩
          | [], hcv, h => simp [hcv] at h
          | _ :: _ :: _, hcv, h => simp [hcv] at h
    cases hcc : cl.callee with
    | value f => simp only [hcc] at h; exact calls h
    | invoke rr m => simp only [hcc] at h; exact calls h
    | builtin bb =>
      have h' : bb ≠ .recover ∧ (match simpleV P e S o.op with
          | some (v, S) => some (En.returned v, S)
          | none => none) = some (en, S') := by
        rw [hop]
        cases bb <;> first | (simp only [hcc, reduceCtorEq] at h; done) | (simp only [hcc] at h; exact ⟨by simp, h⟩)
      exact simple h'.2
  case select => simp [simpleV] at h
  all_goals exact ⟨by simp, by simp, simple (by rw [hop]; exact h)⟩

/-- the machine in the midst of a region -/
structure MInv (P : Program) (ops : Array Oper) (F : Nat → Option VV) (D : List (Nat × St × St)) (ρ0 : Ren) (S0 : St) (w0 : World) (a0 : Act) (E : List Nat) (D1 D2 : List (Nat × St × St)) (ρ : Ren) (w : World) (a : Act) : Prop where
  goes : Goes P.globals.size ρ0 S0 w0 ρ (endOf S0 D1) w
  split : D = D1 ++ D2
  in1 : ∀ x ∈ D1, x.1 ∈ E
  in2 : ∀ x ∈ D2, x.1 ∉ E
  size : a.tmps.size = a0.tmps.size
  slots : ∀ t, (∃ j ∈ E, ∃ o, ops[j]? = some o ∧ o.dst = some t ∧ ∀ v, F j = some v → VRel ρ v (a.tmps.getD t undef)) ∨
    ((∀ j ∈ E, ∀ o, ops[j]? = some o → o.dst ≠ some t) ∧ a.tmps.getD t undef = a0.tmps.getD t undef)
  defers : a.defers = a0.defers

/-- an operation that goes next sees what it should -/
theorem env_at (hok : DrawOk P ops) {l : List Nat} (hl : Topo ops l) {E R : List Nat} {i : Nat} (he : l = E ++ i :: R) {o : Oper} (ho : ops[i]? = some o) {F : Nat → Option VV} {D D1 D2 : List (Nat × St × St)} {a0 a : Act}
    (hm : MInv P ops F D ρ0 S0 w0 a0 E D1 D2 ρ w a) (hfr : TRel ρ0 fr.t fr.n a0.tmps) :
    ∃ a' : Act, (∀ vals, ValsIn vals F → ∀ t v, drawLook ops (Region.before ops) fr vals i t = some v → VRel ρ v (a'.tmps.getD t undef)) ∧ (∀ t ∈ looksV ops o, a'.tmps[t]? = a.tmps[t]?) := by
  let cond : Tmp → Bool := fun t => match writerOf ops.toList t 0 with
    | some j => befB (Region.before ops) j i
    | none => false
  let tm : Array Value := (Array.range a0.tmps.size).map fun t => if cond t then a.tmps.getD t undef else a0.tmps.getD t undef
  have hget : ∀ t, tm[t]? = if t < a0.tmps.size then some (if cond t then a.tmps.getD t undef else a0.tmps.getD t undef) else none := fun t => by
    simp only [tm, Array.getElem?_map, Array.getElem?_range]
    by_cases h : t < a0.tmps.size
    · rw [if_pos h, if_pos h]; rfl
    · rw [if_neg h, if_neg h]; rfl
  have hgetD : ∀ t, tm.getD t undef = if cond t then a.tmps.getD t undef else a0.tmps.getD t undef := fun t => by
    rw [Array.getD_eq_getD_getElem?, hget]
    by_cases h : t < a0.tmps.size
    · simp [h]
    · have h1 : a0.tmps.getD t undef = undef := by rw [Array.getD_eq_getD_getElem?, Array.getElem?_eq_none (by omega)]; rfl
      have h2 : a.tmps.getD t undef = undef := by rw [Array.getD_eq_getD_getElem?, Array.getElem?_eq_none (by have := hm.size; omega)]; rfl
      rw [h1, h2]
      simp [h]
  have hiE : i ∉ E := fun q => by
    have := hl.nodup
    rw [he] at this
    exact (List.nodup_append.1 this).2.2 i q i (by simp) rfl
  refine ⟨{ tmps := tm, defers := a.defers }, ?_, ?_⟩
  · intro vals hvals t v hv
    show VRel ρ v (tm.getD t undef)
    rw [hgetD]
    unfold drawLook at hv
    cases hw : writerOf ops.toList t 0 with
    | none =>
      simp only [hw] at hv
      simp only [cond, hw]
      exact (hfr.2 t v hv).mono hm.goes.ext
    | some j =>
      simp only [hw] at hv
      cases hb : befB (Region.before ops) j i with
      | false =>
        simp only [hb] at hv
        simp only [cond, hw, hb]
        exact (hfr.2 t v hv).mono hm.goes.ext
      | true =>
        simp only [hb] at hv
        simp only [cond, hw, hb, if_true]
        have hjE := hl.bef E i R he j hb
        obtain ⟨oj, q1, q2⟩ := writerOf_some hw
        rcases hm.slots t with ⟨j', _, o', h1, h2, h3⟩ | ⟨h1, _⟩
        · have : j' = j := hok.one j' o' t h1 h2 j oj q1 q2
          subst this
          exact h3 v (hvals _ _ hv)
        · exact absurd q2 (h1 j hjE oj q1)
  · intro t ht
    show tm[t]? = a.tmps[t]?
    rw [hget]
    have key : (if cond t then a.tmps.getD t undef else a0.tmps.getD t undef) = a.tmps.getD t undef := by
      cases hw : writerOf ops.toList t 0 with
      | none =>
        simp only [cond, hw]
        rcases hm.slots t with ⟨j', _, o', h1, h2, _⟩ | ⟨_, h2⟩
        · exact absurd h2 (writerOf_none hw j' o' h1)
        · simpa using h2.symm
      | some j =>
        cases hb : befB (Region.before ops) j i with
        | true => simp only [cond, hw, hb, if_true]
        | false =>
          simp only [cond, hw, hb]
          obtain ⟨oj, q1, q2⟩ := writerOf_some hw
          rcases hm.slots t with ⟨j', hj', o', h1, h2, _⟩ | ⟨_, h2⟩
          · have : j' = j := hok.one j' o' t h1 h2 j oj q1 q2
            subst this
            rcases hok.looks i o ho t ht _ hw with e | e | e
            · subst e; exact absurd hj' hiE
            · rw [hb] at e; cases e
            · -- the writer is behind: it is not done
              obtain ⟨E1, E2, rfl⟩ := List.append_of_mem hj'
              have := hl.bef E1 j' (E2 ++ i :: R) (by rw [he]; simp) i e
              exact absurd (by simp [this]) hiE
          · simpa using h2.symm
    rw [key]
    by_cases h : t < a0.tmps.size
    · have : t < a.tmps.size := by rw [hm.size]; exact h
      rw [if_pos h, Array.getD_eq_getD_getElem?, Array.getElem?_eq_getElem this]
      rfl
    · rw [if_neg h, Array.getElem?_eq_none (xs := a.tmps) (Nat.not_lt.1 (by rw [hm.size]; exact h))]

theorem wanted_congr {o : Oper} {t t' : Array Value} (h : ∀ d ∈ looksV ops o, t[d]? = t'[d]?) : Region.wanted o (yielded ops t) = Region.wanted o (yielded ops t') := by
  unfold Region.wanted
  cases hg : o.guard with
  | none => rfl
  | some p =>
    obtain ⟨j, want⟩ := p
    have : yielded ops t j = yielded ops t' j := by
      unfold yielded
      cases hj : ops[j]? with
      | none => rfl
      | some g =>
        cases hd : g.dst with
        | none => simp [hd]
        | some d =>
          simp only [Option.bind_some, hd]
          rw [h d (by simp [looksV, hg, hj, hd])]
    simp only [this]

theorem exec_congr {o : Oper} {a a' : Act} (hsel : ∀ x y, o.op ≠ .select x y) (h : ∀ t ∈ looksV ops o, a'.tmps[t]? = a.tmps[t]?) : execOp a'.eval o = execOp a.eval o := by
  refine execOp_congr o hsel fun x hx => ?_
  cases x with
  | tmp t =>
    have ht : t ∈ looksV ops o := by
      unfold looksV
      refine List.mem_append_left _ (List.mem_filterMap.2 ⟨.tmp t, by simpa using hx, rfl⟩)
    simp only [Act.eval, Array.getD_eq_getD_getElem?, h t ht]
  | _ => rfl

/-- an operation is done -/
theorem MInv.put {F : Nat → Option VV} {D D1 D2 D1' D2' : List (Nat × St × St)} {a0 a : Act} {E : List Nat} {i : Nat} {o : Oper} {ρ' : Ren} {w' : World} {v' : Value} (hok : DrawOk P ops) (hm : MInv P ops F D ρ0 S0 w0 a0 E D1 D2 ρ w a) (ho : ops[i]? = some o)
    (hg : Goes P.globals.size ρ (endOf S0 D1) w ρ' (endOf S0 D1') w') (hs : D = D1' ++ D2') (h1 : ∀ x ∈ D1', x.1 ∈ E ++ [i]) (h2 : ∀ x ∈ D2', x.1 ∉ E ++ [i])
    (hfit : ∀ d, o.dst = some d → d < a0.tmps.size) (hv : ∀ v, F i = some v → VRel ρ' v v') : MInv P ops F D ρ0 S0 w0 a0 (E ++ [i]) D1' D2' ρ' w' (a.put o.dst v') := by
  refine ⟨hm.goes.trans hg, hs, h1, h2, ?_, ?_, ?_⟩
  · cases o.dst <;> simp [Act.put, hm.size]
  · intro t
    by_cases ht : o.dst = some t
    · refine .inl ⟨i, by simp, o, ho, ht, fun v hF => ?_⟩
      rw [ht]
      simp only [Act.put, Array.getD_eq_getD_getElem?]
      rw [Array.getElem?_setIfInBounds_self_of_lt (by rw [hm.size]; exact hfit t ht)]
      exact hv v hF
    · have hsame : (a.put o.dst v').tmps.getD t undef = a.tmps.getD t undef := by
        cases hd : o.dst with
        | none => rfl
        | some d =>
          have : d ≠ t := fun e => ht (by rw [hd, e])
          simp [Act.put, Array.getD_eq_getD_getElem?, Array.getElem?_setIfInBounds_ne this]
      rw [hsame]
      rcases hm.slots t with ⟨j, hj, oj, q1, q2, q3⟩ | ⟨q1, q2⟩
      · exact .inl ⟨j, by simp [hj], oj, q1, q2, fun v hF => (q3 v hF).mono hg.ext⟩
      · refine .inr ⟨fun j hj oj hoj => ?_, q2⟩
        rcases List.mem_append.1 hj with hj | hj
        · exact q1 j hj oj hoj
        · rw [List.mem_singleton.1 hj, ho] at hoj
          cases hoj
          exact ht
  · cases o.dst <;> exact hm.defers

theorem drawEnd_rel {tmps : Array Value} {vals : Tr VV} : ∀ (l : List Oper) (i : Nat) (t : Tr VV), (∀ d v, t.get d = some v → VRel ρ v (tmps.getD d undef) ∨ ∃ o ∈ l, o.dst = some d) →
    (∀ k o d v, l[k]? = some o → o.dst = some d → vals.get (i + k) = some v → VRel ρ v (tmps.getD d undef)) → ∀ d v, (drawEnd l vals t i).get d = some v → VRel ρ v (tmps.getD d undef)
  | [], i, t, h, _, d, v, hd => by
    rcases h d v hd with h | ⟨o, ho, _⟩
    · exact h
    · cases ho
  | o :: l, i, t, h, hv, d, v, hd => by
    have hv' : ∀ k o d v, l[k]? = some o → o.dst = some d → vals.get (i + 1 + k) = some v → VRel ρ v (tmps.getD d undef) := fun k o' d v h1 h2 h3 => hv (k + 1) o' d v (by simpa using h1) h2 (by rw [← h3]; congr 1; omega)
    have step : ∀ d0 u, o.dst = some d0 → VRel ρ u (tmps.getD d0 undef) → ∀ d v, (t.set d0 u).get d = some v → VRel ρ v (tmps.getD d undef) ∨ ∃ o ∈ l, o.dst = some d := fun d0 u hd0 hu d v hg => by
      rw [Tr.get_set] at hg
      by_cases e : d = d0
      · subst e
        simp only [if_true, Option.some.injEq] at hg
        subst hg
        exact .inl hu
      · rw [if_neg e] at hg
        rcases h d v hg with h | ⟨o', ho', hd'⟩
        · exact .inl h
        · rcases List.mem_cons.1 ho' with rfl | ho'
          · rw [hd0] at hd'; cases hd'; exact absurd rfl e
          · exact .inr ⟨o', ho', hd'⟩
    simp only [drawEnd] at hd
    cases hdst : o.dst with
    | none =>
      simp only [hdst] at hd
      refine drawEnd_rel l (i + 1) t (fun d v hg => ?_) hv' d v hd
      rcases h d v hg with h | ⟨o', ho', hd'⟩
      · exact .inl h
      · rcases List.mem_cons.1 ho' with rfl | ho'
        · rw [hdst] at hd'; cases hd'
        · exact .inr ⟨o', ho', hd'⟩
    | some d0 =>
      cases hvi : vals.get i with
      | none =>
        simp only [hdst, hvi, Tr.with_eq] at hd
        exact drawEnd_rel l (i + 1) _ (step d0 .any hdst (.any _)) hv' d v hd
      | some u =>
        simp only [hdst, hvi, Tr.with_eq] at hd
        exact drawEnd_rel l (i + 1) _ (step d0 u hdst (hv 0 o d0 u (by simp) hdst (by simpa using hvi))) hv' d v hd

theorem drawLost_rel {tmps : Array Value} : ∀ (l : List Oper) (t : Tr VV), (∀ d v, t.get d = some v → VRel ρ v (tmps.getD d undef) ∨ ∃ o ∈ l, o.dst = some d) → ∀ d v, (drawLost l t).get d = some v → VRel ρ v (tmps.getD d undef)
  | [], t, h, d, v, hd => by
    rcases h d v hd with h | ⟨o, ho, _⟩
    · exact h
    · cases ho
  | o :: l, t, h, d, v, hd => by
    simp only [drawLost] at hd
    cases hdst : o.dst with
    | none =>
      simp only [hdst] at hd
      refine drawLost_rel l t (fun d v hg => ?_) d v hd
      rcases h d v hg with h | ⟨o', ho', hd'⟩
      · exact .inl h
      · rcases List.mem_cons.1 ho' with rfl | ho'
        · rw [hdst] at hd'; cases hd'
        · exact .inr ⟨o', ho', hd'⟩
    | some d0 =>
      simp only [hdst, Tr.with_eq] at hd
      refine drawLost_rel l _ (fun d v hg => ?_) d v hd
      rw [Tr.get_set] at hg
      by_cases e : d = d0
      · subst e
        simp only [if_true, Option.some.injEq] at hg
        subst hg
        exact .inl (.any _)
      · rw [if_neg e] at hg
        rcases h d v hg with h | ⟨o', ho', hd'⟩
        · exact .inl h
        · rcases List.mem_cons.1 ho' with rfl | ho'
          · rw [hdst] at hd'; cases hd'; exact absurd rfl e
          · exact .inr ⟨o', ho', hd'⟩

end Go.Vm

/-
  A virtual semantics of the model's code (31): a region that draws, run; all of it is sound.
-/
namespace Go.Vm
variable {P : Program} {ov : Ov} {r : Rec} {ops : Array Oper} {fr : Fr} {S0 S : St} {ρ ρ0 : Ren} {w w0 : World}

theorem fits_spec {n : Nat} (h : fits ops.toList n = true) {i : Nat} {o : Oper} (ho : ops[i]? = some o) {d : Tmp} (hd : o.dst = some d) : d < n := by
  unfold fits at h
  have := List.all_eq_true.1 h o (by rw [Array.mem_toList_iff]; exact Array.mem_of_getElem? ho)
  simpa [hd, Nat.blt_eq] using this

theorem draw_run (hs : Sounds P ov r) (hok : DrawOk P ops) {l cl : List Nat} (hl : Topo ops l) (hclnd : cl.Nodup) (hclall : ∀ i, i ∈ cl ↔ i < ops.size) (hclpw : cl.Pairwise fun i j => ¬ befB (Region.before ops) j i = true) {C' : List Nat} {F : Nat → Option VV}
    {D : List (Nat × St × St)} {Rd : List (Nat × VV)} {L : CodeR} (hC : Canon P ov r ops fr S0 C' F D Rd) (hE : CanonEnd P ov r ops fr S0 cl C' F D L) {b : Frame} {C : Callers} {p : Option (List PanicEntry)} {a0 : Act} {k : List Item}
    (hrc : RcRel ρ0 b.kind C fr.rc p) (ha : ARel ρ0 fr a0) (hfit : fits ops.toList fr.n = true) :
    ∀ (R E : List Nat) (D1 D2 : List (Nat × St × St)) (ρ : Ren) (w : World) (a : Act), l = E ++ R → MInv P ops F D ρ0 S0 w0 a0 E D1 D2 ρ w a → (∀ j ∈ E, j ∈ C') →
      CodeIs P P.globals.size L ρ0 S0 w0 b C (lone (b.atR a (.inRegion ops R :: k)) (C.at p) w) k := by
  have hn : a0.tmps.size = fr.n := ha.1.1
  intro R
  induction R with
  | nil =>
    intro E D1 D2 ρ w a he hm hEC
    rw [List.append_nil] at he
    subst he
    rcases hE with ⟨rfl, vals, hvals, rfl⟩ | ⟨i, R, ch, S', o, vals, hcl, ho, _⟩
    · have hD2 : D2 = [] := by
        cases D2 with
        | nil => rfl
        | cons x D2 =>
          refine absurd ((hl.all x.1).2 ((hclall x.1).1 (hC.keys x (by rw [hm.split]; simp)))) (hm.in2 x (by simp))
      subst hD2
      have hsp := hm.split
      rw [List.append_nil] at hsp
      subst hsp
      refine ⟨.normal, _, _, List.mem_singleton.2 rfl, ρ, w, p, a, hm.goes, hrc.mono hm.goes.ext, ⟨⟨by rw [hm.size]; exact hn, ?_⟩, by rw [hm.defers]; exact ha.2.mono hm.goes.ext⟩, .one stepR_region_end⟩
      refine drawEnd_rel ops.toList 0 fr.t (fun d v hd => ?_) (fun k' o d v ho hd hv => ?_)
      · rcases hm.slots d with ⟨j, _, oj, q1, q2, _⟩ | ⟨_, q2⟩
        · exact .inr ⟨oj, by rw [Array.mem_toList_iff]; exact Array.mem_of_getElem? q1, q2⟩
        · rw [q2]
          exact .inl ((ha.1.2 d v hd).mono hm.goes.ext)
      · rw [Nat.zero_add] at hv
        have ho' : ops[k']? = some o := by simpa using ho
        have hk' : k' ∈ l := (hl.all k').2 (Array.getElem?_eq_some_iff.1 ho').1
        rcases hm.slots d with ⟨j, _, oj, q1, q2, q3⟩ | ⟨q1, _⟩
        · have : j = k' := hok.one j oj d q1 q2 k' o ho' hd
          subst this
          exact q3 v (hvals _ _ hv)
        · exact absurd hd (q1 k' hk' o ho')
    · exfalso
      have hi : i ∈ l := (hl.all i).2 ((hclall i).1 (by rw [hcl]; simp))
      have := hEC i hi
      rw [hcl] at hclnd
      exact (List.nodup_append.1 hclnd).2.2 i this i (by simp) rfl
  | cons i R ih =>
    intro E D1 D2 ρ w a he hm hEC
    have hS := hm.goes.sim
    have hiE : i ∉ E := fun q => by
      have := hl.nodup
      rw [he] at this
      exact (List.nodup_append.1 this).2.2 i q i (by simp) rfl
    have hnext : ∀ j ∈ E, ¬ befB (Region.before ops) i j = true := fun j hj hb => by
      obtain ⟨E1, E2, rfl⟩ := List.append_of_mem hj
      have := hl.bef E1 j (E2 ++ i :: R) (by rw [he]; simp) i hb
      exact hiE (by simp [this])
    have he' : l = (E ++ [i]) ++ R := by rw [he]; simp
    have hlt : i < ops.size := (hl.all i).1 (by rw [he]; simp)
    -- an operation that wants to run
    have go1 : ∀ (o : Oper) (en : En) (S' : St) (ρ' : Ren) (w' : World), ops[i]? = some o → Region.wanted o (yielded ops a.tmps) = true → (∀ d, o.op ≠ .defer d) → Goes1 P ρ' (b.atR a (.inRegion ops (i :: R) :: k)) (C.at p) (execOp a.eval o) w w' en →
        match en with
        | .returned v => ∃ v', VRel ρ' v v' ∧ Steps P (lone (b.atR a (.inRegion ops (i :: R) :: k)) (C.at p) w) (lone (b.atR (a.put o.dst v') (.inRegion ops R :: k)) (C.at p) w')
        | .panicked ch => ∃ ch', PanRels ρ' ch ch' ∧ Steps P (lone (b.atR a (.inRegion ops (i :: R) :: k)) (C.at p) w) (lone { b.atR a (.inRegion ops (i :: R) :: k) with mode := .panicking ch' } (C.at p) w') := fun o en S' ρ' w' ho hw hnd hgo => by
      cases en with
      | returned v =>
        obtain ⟨v', h1, h2⟩ := hgo
        refine ⟨v', h1, ?_⟩
        rw [finish_op ho v'] at h2
        exact steps_op ho hw (by rw [Oper.semAt_eq _ _ _ hnd]; exact h2)
      | panicked ch =>
        obtain ⟨ch', h1, h2⟩ := hgo
        exact ⟨ch', h1, steps_op ho hw (by rw [Oper.semAt_eq _ _ _ hnd]; exact h2)⟩
    by_cases hi : i ∈ C'
    · obtain ⟨o, vals, ho, hvals, hfact⟩ := hC.fact i hi
      obtain ⟨a', hea, hsame⟩ := env_at hok hl he ho hm ha.1
      have hwant : ∀ q, wantedV ops o (fun d => drawLook ops (Region.before ops) fr vals i d) = some q → Region.wanted o (yielded ops a.tmps) = q := fun q hq => by
        rw [← wanted_rel (tmps := a'.tmps) (hea vals hvals) hq]
        exact (wanted_congr hsame).symm
      have hEC' : ∀ j ∈ E ++ [i], j ∈ C' := fun j hj => by
        rcases List.mem_append.1 hj with hj | hj
        · exact hEC j hj
        · rw [List.mem_singleton.1 hj]; exact hi
      have hfd : ∀ d, o.dst = some d → d < a0.tmps.size := fun d hd => by rw [hn]; exact fits_spec hfit ho hd
      rcases hfact with ⟨h1, h2, h3⟩ | ⟨h1, h2, v, Sa, Sb, h3, h4, h5⟩ | ⟨h1, h2, h3, v, h4, h5, h6⟩
      · -- not wanted
        have hw := hwant false h1
        have hm' : MInv P ops F D ρ0 S0 w0 a0 (E ++ [i]) D1 D2 ρ w (a.put o.dst undef) := hm.put hok ho (.refl hS) hm.split (fun x hx => by simp [hm.in1 x hx])
          (fun x hx q => by
            rcases List.mem_append.1 q with q | q
            · exact hm.in2 x hx q
            · exact h3 x (by rw [hm.split]; simp [hx]) (List.mem_singleton.1 q)) hfd (fun u hu => by rw [h2] at hu; cases hu; exact undef_rel ρ)
        have hstep := stepR_op_skip (P := P) (b := b) (a := a) (k := k) (cs := C.at p) (w := w) (ops := ops) (i := i) (rest := R) (by simp [ho, hw])
        simp only [ho, Option.bind_some] at hstep
        exact .of_steps (.one hstep) (ih (E ++ [i]) D1 D2 ρ w _ he' hm' hEC')
      · -- it writes
        have hw := hwant true h1
        obtain ⟨D2a, D2b, hD⟩ : ∃ Da Db, D = Da ++ (i, Sa, Sb) :: Db := List.append_of_mem h3
        -- all ahead of it are done, none behind
        have hD1 : D1 = D2a := by
          have hiD1 : ∀ x ∈ D1, x.1 ≠ i := fun x hx e => hiE (e ▸ hm.in1 x hx)
          have hpw := hC.ord
          have hsplit : D1 ++ D2 = D2a ++ (i, Sa, Sb) :: D2b := by rw [← hm.split, hD]
          rcases List.append_eq_append_iff.1 hsplit with ⟨X, q1, q2⟩ | ⟨X, q1, q2⟩
          · cases X with
            | nil => rw [q1]; simp
            | cons x X =>
              exfalso
              -- x is ahead of i and not done
              have hx2 : x ∈ D2 := by rw [q2]; simp
              have hb : befB (Region.before ops) x.1 i = true := by
                rw [hD, q1, List.append_assoc, List.pairwise_append] at hpw
                exact (List.pairwise_cons.1 hpw.2.1).1 (i, Sa, Sb) (by simp)
              exact hm.in2 x hx2 (hl.bef E i R he x.1 hb)
          · cases X with
            | nil => rw [q1]; simp
            | cons x X =>
              exfalso
              rw [List.cons_append, List.cons.injEq] at q2
              exact hiD1 x (by rw [q1]; simp) (by rw [← q2.1])
        subst hD1
        have hsplit : D2 = (i, Sa, Sb) :: D2b := by
          have := hm.split
          rw [hD] at this
          exact (List.append_cancel_left this).symm
        have hSa : Sa = endOf S0 D1 := hC.chain D1 (i, Sa, Sb) D2b hD
        rw [hSa] at h4
        obtain ⟨hnd, hsel, ρ1, w1, hg1, hgo⟩ := effectV_sound hs (fun x => evO_rel hS (a := a') (hea vals hvals) x) h4 hS (b.atR a (.inRegion ops (i :: R) :: k)) (C.at p) (plain_op _ _ _ _ _)
        rw [exec_congr hsel hsame] at hgo
        obtain ⟨v', hv', hsteps⟩ := go1 o _ Sb ρ1 w1 ho hw hnd hgo
        have hm' : MInv P ops F D ρ0 S0 w0 a0 (E ++ [i]) (D1 ++ [(i, Sa, Sb)]) D2b ρ1 w1 (a.put o.dst v') := hm.put hok ho (by rw [endOf_snoc]; exact hg1) (by rw [hD]; simp)
          (fun x hx => by
            rcases List.mem_append.1 hx with hx | hx
            · simp [hm.in1 x hx]
            · rw [List.mem_singleton.1 hx]; simp)
          (fun x hx q => by
            rcases List.mem_append.1 q with q | q
            · exact hm.in2 x (by rw [hsplit]; simp [hx]) q
            · have hpw := hC.ord
              rw [hD, List.pairwise_append] at hpw
              have hb := (List.pairwise_cons.1 hpw.2.1).1 x hx
              rw [List.mem_singleton.1 q] at hb
              exact Nat.lt_irrefl _ (bef_back hok.back i i hb)) hfd (fun u hu => by rw [h5] at hu; cases hu; exact hv')
        exact .of_steps hsteps (ih (E ++ [i]) _ D2b ρ1 w1 _ he' hm' hEC')
      · -- it reads
        have hw := hwant true h1
        obtain ⟨vals', hvals', S', hsv⟩ := h6 D1 D2 hm.split (fun x hx => hnext x.1 (hm.in1 x hx)) (fun x hx hb => hm.in2 x hx (hl.bef E i R he x.1 hb))
        obtain ⟨ρ1, w1, _, _, hquiet⟩ := simpleV_sound (P := P) (o := o) hS (fun x => evO_rel hS (a := a') (hea vals' hvals') x) hsv
        obtain ⟨_, _, _, v', hrun, hv'⟩ := hquiet h2
        have hsel : ∀ x y, o.op ≠ .select x y := fun x y e => by rw [e] at hsv; simp [simpleV] at hsv
        have hnd : ∀ d, o.op ≠ .defer d := fun d e => by rw [e] at hsv; simp [simpleV] at hsv
        rw [exec_congr hsel hsame] at hrun
        have happ : Applies P (b.atR a (.inRegion ops (i :: R) :: k)) (C.at p) (execOp a.eval o) w (lone ((b.atR a (.inRegion ops (i :: R) :: k)).finish v') (C.at p) w) := ⟨_, _, _, apply_value hrun, .refl _ _⟩
        obtain ⟨v2, hv2, hsteps⟩ := go1 o (.returned v) S0 ρ w ho hw hnd ⟨v', hv', happ⟩
        have hm' : MInv P ops F D ρ0 S0 w0 a0 (E ++ [i]) D1 D2 ρ w (a.put o.dst v2) := hm.put hok ho (.refl hS) hm.split (fun x hx => by simp [hm.in1 x hx])
          (fun x hx q => by
            rcases List.mem_append.1 q with q | q
            · exact hm.in2 x hx q
            · exact h3 x (by rw [hm.split]; simp [hx]) (List.mem_singleton.1 q)) hfd (fun u hu => by rw [h4] at hu; cases hu; exact hv2)
        exact .of_steps hsteps (ih (E ++ [i]) D1 D2 ρ w _ he' hm' hEC')
    · -- not of those: the one that panics
      rcases hE with ⟨rfl, _⟩ | ⟨ip, Rp, ch, S', o, vals, hcl, ho, hvals, hw0, hk2, hef, hRp, rfl⟩
      · exact absurd ((hclall i).2 hlt) hi
      · have hmem : i ∈ cl := (hclall i).2 hlt
        rw [hcl] at hmem
        rcases List.mem_append.1 hmem with q | q
        · exact absurd q hi
        · rcases List.mem_cons.1 q with rfl | q
          · obtain ⟨a', hea, hsame⟩ := env_at hok hl he ho hm ha.1
            have hw : Region.wanted o (yielded ops a.tmps) = true := by
              rw [← wanted_rel (tmps := a'.tmps) (hea vals hvals) hw0]
              exact (wanted_congr hsame).symm
            have hD2 : D2 = [] := by
              cases D2 with
              | nil => rfl
              | cons x D2 =>
                exfalso
                have hxD : x ∈ D := by rw [hm.split]; simp
                have hxC := hC.keys x hxD
                obtain ⟨ox, hox, hkx⟩ := hC.kind x hxD
                have hne : x.1 ≠ i := fun e => hi (e ▸ hxC)
                rw [hcl, List.pairwise_append] at hclpw
                have hnb := hclpw.2.2 x.1 hxC i (by simp)
                rcases hok.total i o ho hk2 x.1 ox hox hkx with e | e | e
                · exact hne e.symm
                · exact hm.in2 x (by simp) (hl.bef E i R he x.1 e)
                · exact hnb e
            subst hD2
            have hsp := hm.split
            rw [List.append_nil] at hsp
            subst hsp
            obtain ⟨hnd, hsel, ρ1, w1, hg1, hgo⟩ := effectV_sound hs (fun x => evO_rel hS (a := a') (hea vals hvals) x) hef hS (b.atR a (.inRegion ops (i :: R) :: k)) (C.at p) (plain_op _ _ _ _ _)
            rw [exec_congr hsel hsame] at hgo
            obtain ⟨ch', hch, hsteps⟩ := go1 o _ S' ρ1 w1 ho hw hnd hgo
            have hg := hm.goes.trans hg1
            refine ⟨.panic ch, _, _, List.mem_singleton.2 rfl, ρ1, w1, p, a, hg, hrc.mono hg.ext, ⟨⟨by rw [hm.size]; exact hn, ?_⟩, by rw [hm.defers]; exact ha.2.mono hg.ext⟩, .inRegion ops (i :: R) :: k, ch', hch, hsteps⟩
            refine drawLost_rel ops.toList fr.t (fun d v hd => ?_)
            rcases hm.slots d with ⟨j, _, oj, q1, q2, _⟩ | ⟨_, q2⟩
            · exact .inr ⟨oj, by rw [Array.mem_toList_iff]; exact Array.mem_of_getElem? q1, q2⟩
            · rw [q2]
              exact .inl ((ha.1.2 d v hd).mono hg.ext)
          · exfalso
            have hipE := hl.bef E i R he ip (hRp i q)
            have := hEC ip hipE
            rw [hcl] at hclnd
            exact (List.nodup_append.1 hclnd).2.2 ip this ip (by simp) rfl

theorem drawV_sound (hmix : P.follows .mixedOrders = true) (hs : Sounds P ov r) : DrawSound P ov r := by
  intro fi id ops fr S L h ρ w b C p a k hS hx hrc ha
  unfold drawV at h
  cases hok : drawOk P ops && fits ops.toList fr.n with
  | false => simp [hok] at h
  | true =>
    simp only [hok] at h
    simp only [Bool.and_eq_true] at hok
    have hd := drawOk_spec hok.1
    obtain ⟨hnd, hall, hpw⟩ := canonV_spec (P := P) hd.back
    obtain ⟨C', F, D, Rd, hC, hE⟩ := drawGo_canon hd (canonV P ops) [] _ L h ⟨by simp, by simp, by simp, by simp, by simp, by simp⟩ rfl (by simpa using hnd) (by simpa using hpw)
    rw [List.nil_append] at hE
    refine .of_steps (.one stepR_region_draw) ?_
    have hsch : Region.schedule (P.follows .mixedOrders) ops (w.tape w.drawn (.order b.fn id)) = Region.linearise .any ops (w.tape w.drawn (.order b.fn id)) := by
      unfold Region.schedule
      rw [hmix]
      rfl
    rw [hsch]
    have hgs : Goes P.globals.size ρ S w ρ S { w with drawn := w.drawn + 1 } := Goes.same hS rfl rfl rfl
    exact draw_run hs hd (linearise_topo hd.back _) hnd hall hpw hC hE hrc ha hok.2 _ [] [] D ρ _ a rfl ⟨hgs, rfl, by simp, by simp, rfl, fun t => .inr ⟨by simp, rfl⟩, rfl⟩ (by simp)

theorem recNone_sound : RecSound P recNone := ⟨fun _ _ _ _ _ h => by simp [recNone] at h, fun _ _ _ _ _ h => by simp [recNone] at h, fun _ _ _ _ _ h => by simp [recNone] at h, fun _ _ _ _ h => by simp [recNone] at h⟩

/-- **what the virtual semantics answers is what the machine does** -/
theorem ev_sound (hmix : P.follows .mixedOrders = true) (hn : NoCount P) (ho : OvSound P ov) : ∀ n, Sounds P ov (ev P ov n)
  | 0 => ⟨recNone_sound, ho, hn, fun _ _ _ _ _ h => by simp [recNone] at h⟩
  | n + 1 => by
    have hs := ev_sound hmix hn ho n
    rw [ev_succ]
    exact ⟨⟨codeV_sound hs (drawV_sound hmix hs) (rangeFuncV_sound hs), callFuncV_sound hs.rec_, unwV_sound hs.rec_ hn hs.call, roundV_sound hs.rec_⟩, ho, hn, callFuncV_body⟩

end Go.Vm

/-
  A virtual semantics of the model's code (32): a call's contract out of what the virtual semantics answers.
-/
namespace Go.Vm
variable {P : Program} {ov : Ov} {S : St} {ρ : Ren} {w : World}

/-- how a call ended -/
def EndRel (ρ : Ren) : En → Ending → Prop
  | .returned v, .returned v' => VRel ρ v v'
  | .panicked ch, .panicked ch' => PanRels ρ ch ch'
  | _, _ => False

theorem ev_calls (hmix : P.follows .mixedOrders = true) (hn : NoCount P) (ho : OvSound P ov) {n : Nat} {f : FuncId} {args : List VV} {L : CallR} (h : (ev P ov n).call f args none S = some L) (hS : Sim P.globals.size ρ S w) {args' : Array Value} (ha : VRels ρ args args'.toList) :
    Calls P f args' w fun e w' => ∃ en rc S' ρ', (en, rc, S') ∈ L ∧ Goes P.globals.size ρ S w ρ' S' w' ∧ EndRel ρ' en e := by
  intro cs
  obtain ⟨en, rc, S', h1, ρ', w', p', fr, h2, h3, h4, h5⟩ := (ev_sound hmix hn ho n).rec_.call f args none S L h ρ w .normal (.fixed cs) none args' hS (.normal _) ha (.inl rfl)
  cases en with
  | returned v =>
    obtain ⟨m1, m2, m3, m4, fn, v', m5, m6, m7⟩ := h5
    exact ⟨.returned v', w', fr, ⟨_, rc, S', ρ', h1, h2, m7⟩, h4, m4, m1, m2, m3, fn, by rw [m4]; exact m5, m6⟩
  | panicked ch =>
    obtain ⟨m1, m2, m3, ⟨fn, m5⟩, ch', m6, m7⟩ := h5
    exact ⟨.panicked ch', w', fr, ⟨_, rc, S', ρ', h1, h2, m7⟩, h4, m3, m6, m1, fn, by rw [m3]; exact m5⟩

/-- every outcome is 'true' -/
def okTrue : Option CallR → Bool
  | some l => l.all fun x => match x.1 with
    | .returned (.bool true) => true
    | _ => false
  | none => false

theorem okTrue_spec {x : Option CallR} (h : okTrue x = true) : ∃ L, x = some L ∧ ∀ y ∈ L, y.1 = .returned (.bool true) := by
  unfold okTrue at h
  cases x with
  | none => simp at h
  | some l =>
    refine ⟨l, rfl, fun y hy => ?_⟩
    have := List.all_eq_true.1 h y hy
    obtain ⟨e, rc, S⟩ := y
    cases e with
    | panicked ch => simp at this
    | returned v =>
      cases v with
      | bool b => cases b with
        | true => rfl
        | false => simp at this
      | _ => simp at this

/-- no memory of its own -/
def bareSt (P : Program) : St := { h := .nil, nx := P.globals.size }

def bareRen (P : Program) : Ren := fun id => if id < P.globals.size then some (id, 0, 0) else none

theorem bare_sim (h : P.globals.size ≤ w.heap.size) : Sim P.globals.size (bareRen P) (bareSt P) w := by
  refine ⟨fun id o q => by simp [bareSt] at q, fun i j oi oj r b n b' n' q => by simp [bareSt] at q, fun id q => ?_, fun id r b n q => ?_, fun g q => ⟨0, by simp [bareRen, q]⟩⟩
  · simp only [bareSt] at q
    simp only [bareRen]
    rw [if_neg (by omega)]
  · simp only [bareRen] at q
    split at q
    · simp only [Option.some.injEq, Prod.mk.injEq] at q
      omega
    · cases q

/-- a closed run that is true in every outcome -/
theorem closed_true (hmix : P.follows .mixedOrders = true) (hn : NoCount P) (ho : OvSound P ov) {n : Nat} {f : FuncId} (h : okTrue ((ev P ov n).call f [] none (bareSt P)) = true) (hw : P.globals.size ≤ w.heap.size) :
    Calls P f #[] w fun e w' => e = .returned (.bool true) ∧ w.keptBut w' (fun _ => False) := by
  obtain ⟨L, hL, hall⟩ := okTrue_spec h
  refine (ev_calls hmix hn ho hL (bare_sim hw) .nil).mono fun e w' => ?_
  rintro ⟨en, rc, S', ρ', h1, h2, h3⟩
  have he : en = .returned (.bool true) := hall _ h1
  subst he
  refine ⟨?_, h2.os, h2.output, fun i hi => ?_⟩
  · cases e with
    | returned v' => cases h3; rfl
    | _ => exact h3.elim
  · have hk := h2.keep i hi (by rintro ⟨id, o, b, n, q, _⟩; simp [bareSt] at q)
    rw [hk]
    cases w.heap[i]? with
    | none => rfl
    | some o => cases o <;> simp

/-- the index of a byte -/
def idxB : List UInt8 → Nat → Nat → Int
  | [], _, _ => -1
  | x :: l, b, i => match Nat.beq x.toNat b with
    | true => (i : Int)
    | false => idxB l b (i + 1)

def ibV : List VV → St → Option (En × St) := fun xs S => match xs with
  | [.str s, .int .u8 b] => match b with
    | .ofNat b => match Nat.blt b 256 with
      | true => some (.returned (.int .i64 (idxB s b 0)), S)
      | false => none
    | _ => none
  | _ => none

theorem idxB_eq (c : UInt8) : ∀ (l : List UInt8) (i : Nat), idxB l c.toNat i = if Lib.indexByte l c = -1 then -1 else Lib.indexByte l c + i
  | [], _ => rfl
  | x :: l, i => by
    simp only [idxB, Lib.indexByte]
    cases hb : Nat.beq x.toNat c.toNat with
    | true =>
      have : x = c := UInt8.toNat_inj.1 (Nat.eq_of_beq_eq_true hb)
      subst this
      simp
    | false =>
      have hne : x ≠ c := fun e => by subst e; simp at hb
      simp only [beq_iff_eq, hne, if_false]
      rw [idxB_eq c l (i + 1)]
      have := Lib.indexByte_ge l c
      by_cases h : Lib.indexByte l c = -1
      · simp [h]
      · rw [if_neg h, if_neg h, if_neg (by omega)]
        push_cast
        omega

theorem ibV_sound {f : FuncId} {fn : Func} (hf : P.funcs[f]? = some fn) (hname : (fn.name == "runtime.NumGoroutine") = false) (hb : fn.body.isNone = true) (hnx : Extern.findNext fn = none) (he : Extern.find fn = some Extern.BytealgIndexByte.indexByte)
    {xs : List VV} {e : En} {S' : St} (h : ibV xs S = some (e, S')) : FunT P f xs S fun e1 S1 => e1 = e ∧ S1 = S' := by
  intro ρ w args' hS ha s hs c cs hc
  unfold ibV at h
  match xs, h with
  | [.str s, .int .u8 (.negSucc b)], h => simp at h
  | [.str s, .int .u8 (.ofNat b)], h =>
    cases hb2 : Nat.blt b 256 with
    | false => simp [hb2] at h
    | true =>
      simp only [hb2, Option.some.injEq, Prod.mk.injEq] at h
      obtain ⟨rfl, rfl⟩ := h
      have hlt : b < 256 := by simpa [Nat.blt_eq] using hb2
      obtain ⟨a1, a2, hargs, h1, h2⟩ : ∃ a1 a2, args' = #[a1, a2] ∧ VRel ρ (.str s) a1 ∧ VRel ρ (.int .u8 (.ofNat b)) a2 := by
        obtain ⟨l⟩ := args'
        simp only at ha
        cases ha with
        | cons h1 t => cases t with
          | cons h2 t => cases t; exact ⟨_, _, rfl, h1, h2⟩
      subst hargs
      cases h1 with
      | str bs =>
        cases h2
        refine ⟨_, _, ⟨rfl, rfl⟩, ρ, w, .refl hS, .int .i64 (idxB bs.data.toList b 0), .int _ _, _, _, _, apply_value ?_, .refl _ _⟩
        rw [hs, run_callFunc_extern hf hname hb hnx he, Lib.run_indexByteString]
        have hbb : (Int.ofNat b).toNat.toUInt8.toNat = b := by
          simp only [Int.ofNat_eq_natCast, Int.toNat_natCast]
          exact UInt8.toNat_ofNat_of_lt hlt
        have := idxB_eq ((Int.ofNat b).toNat.toUInt8) bs.data.toList 0
        rw [hbb] at this
        rw [this]
        simp only [Result.andThen_ok]
        split
        · rename_i q; rw [q]
        · simp

theorem noCount_of (h : (P.funcs.toList.all fun fn => fn.name != "runtime.NumGoroutine") = true) : NoCount P := fun f fn hf e => by
  have := List.all_eq_true.1 h fn (by rw [Array.mem_toList_iff]; exact Array.mem_of_getElem? hf)
  simp [e] at this

end Go.Vm

/-
  A virtual semantics of the model's code (33): a contract of the kit's in a function's place.
-/
namespace Go.Vm
variable {P : Program} {G : Nat} {S : St} {ρ : Ren} {w w' : World}

/-- nothing that was there has turned -/
structure Apart (w w' : World) : Prop where
  size : w.heap.size ≤ w'.heap.size
  keep : ∀ r, r < w.heap.size → w'.heap[r]? = w.heap[r]?
  output : w'.output = w.output
  os : w'.os = w.os

theorem Goes.grown (hS : Sim G ρ S w) (h : Apart w w') : Goes G ρ S w ρ S w' where
  ext := ρ.le_refl
  sim := ⟨fun id o q => by
      obtain ⟨r, b, n, o', h1, h2, h3⟩ := hS.obj id o q
      exact ⟨r, b, n, o', h1, by rw [h.keep r (hS.low id r b n h1)]; exact h2, h3⟩,
    hS.inj, hS.fresh, fun id r b n q => Nat.lt_of_lt_of_le (hS.low id r b n q) h.size, hS.glob⟩
  size := h.size
  output := h.output
  os := h.os
  keep r hr _ := h.keep r hr
  wl _ _ q := q
  dom _ _ q := q

theorem Apart.refl (w : World) : Apart w w := ⟨Nat.le_refl _, fun _ _ => rfl, rfl, rfl⟩
theorem Apart.trans {w'' : World} (h : Apart w w') (h' : Apart w' w'') : Apart w w'' :=
  ⟨Nat.le_trans h.size h'.size, fun r hr => (h'.keep r (Nat.lt_of_lt_of_le hr h.size)).trans (h.keep r hr), h'.output.trans h.output, h'.os.trans h.os⟩

end Go.Vm
