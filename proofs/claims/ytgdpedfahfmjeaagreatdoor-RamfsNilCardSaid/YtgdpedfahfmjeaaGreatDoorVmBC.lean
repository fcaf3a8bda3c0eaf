/-
  A virtual semantics of the model's code (29): what a region's order of ours says of every other.
-/
import Derived.Test.YtgdpedfahfmjeaaGreatDoorVmBB
namespace Go.Vm
variable {P : Program} {ov : Ov} {r : Rec} {ops : Array Oper} {fr : Fr} {S0 : St}

theorem VV.same_eq (a : VV) : ∀ b, VV.same a b = true → a = b := by
  refine VV.rec (motive_1 := fun a => ∀ b, VV.same a b = true → a = b) (motive_2 := fun l => ∀ m, VV.same.sameL l m = true → l = m) ?_ ?_ ?_ ?_ ?_ ?_ ?_ ?_ ?_ ?_ ?_ ?_ ?_ ?_ ?_ a
  · intro b h; cases b <;> simp [VV.same] at h
  · intro x b h; cases b <;> simp_all [VV.same]
  · intro k x b h; cases b <;> simp_all [VV.same]
  · intro x b h
    cases b <;> first | (simp [VV.same] at h; done) | (simp only [VV.same] at h; rw [strEq_eq, beq_iff_eq] at h; rw [h])
  · intro x b h
    cases b with
    | ptr y =>
      cases x with
      | none => cases y with
        | none => rfl
        | some y => simp [VV.same] at h
      | some x => cases y with
        | none => simp [VV.same] at h
        | some y =>
          simp only [VV.same, Bool.and_eq_true] at h
          rw [show x = y from Prod.ext (Nat.eq_of_beq_eq_true h.1) (Nat.eq_of_beq_eq_true h.2)]
    | _ => cases x <;> simp [VV.same] at h
  · intro x n c b h
    cases b with
    | slice y n' c' =>
      simp only [VV.same, Bool.and_eq_true, decide_eq_true_eq] at h
      rw [h.1.1, Nat.eq_of_beq_eq_true h.1.2, h.2]
    | _ => simp [VV.same] at h
  · intro x b h; cases b <;> simp_all [VV.same]
  · intro f x c hx hc b h
    cases b with
    | func g y d =>
      cases x with
      | cons _ _ => cases y <;> simp [VV.same] at h
      | nil => cases y with
        | cons _ _ => simp [VV.same] at h
        | nil =>
          simp only [VV.same, Bool.and_eq_true, decide_eq_true_eq] at h
          rw [h.1, hc _ h.2]
    | _ => cases x <;> simp [VV.same] at h
  · intro b h; cases b <;> simp_all [VV.same]
  · intro t v _ b h; cases b <;> simp [VV.same] at h
  · intro b h; cases b <;> simp_all [VV.same]
  · intro l hl b h
    cases b <;> first | (simp [VV.same] at h; done) | (simp only [VV.same] at h; rw [hl _ h])
  · intro l hl b h
    cases b <;> first | (simp [VV.same] at h; done) | (simp only [VV.same] at h; rw [hl _ h])
  · intro m h; cases m <;> simp_all [VV.same.sameL]
  · intro v l hv hl m h
    cases m with
    | nil => simp [VV.same.sameL] at h
    | cons u m =>
      simp only [VV.same.sameL, Bool.and_eq_true] at h
      rw [hv _ h.1, hl _ h.2]

theorem stableV_eq {e : Operand → VV} {op : Op} {v : VV} {S : St} (h : stableV P e op v S = true) : ∃ S', simpleV P e S op = some (v, S') := by
  unfold stableV at h
  cases hs : simpleV P e S op with
  | none => simp [hs] at h
  | some q =>
    obtain ⟨u, S'⟩ := q
    simp only [hs] at h
    rw [← VV.same_eq _ _ h]
    exact ⟨S', rfl⟩

theorem readsHold_spec {b : Array Nat} {vals : Tr VV} {i : Nat} {S : St} : ∀ {l : List (Nat × VV)}, readsHold P ops b fr vals i S l = true → ∀ q v, (q, v) ∈ l → freeV b q i = true →
    ∃ o, ops[q]? = some o ∧ stableV P (drawEv P.globals.size ops b fr vals q) o.op v S = true
  | [], _, q, v, hm, _ => by cases hm
  | (q', v') :: l, h, q, v, hm, hf => by
    simp only [readsHold, Bool.and_eq_true] at h
    rcases List.mem_cons.1 hm with e | hm
    · simp only [Prod.mk.injEq] at e
      obtain ⟨rfl, rfl⟩ := e
      have h1 := h.1
      simp only [hf] at h1
      cases ho : ops[q]? with
      | none => simp [ho] at h1
      | some o => simp only [ho] at h1; exact ⟨o, rfl, h1⟩
    · exact readsHold_spec h.2 q v hm hf

theorem holdsAt_spec {e : Operand → VV} {op : Op} {v : VV} {b : Array Nat} {i : Nat} : ∀ {l : List (Nat × St × St)}, holdsAt P e op v b i l = true → ∀ x ∈ l, freeV b x.1 i = true → stableV P e op v x.2.1 = true ∧ stableV P e op v x.2.2 = true
  | [], _, x, hm, _ => by cases hm
  | (j, s, s') :: l, h, x, hm, hf => by
    simp only [holdsAt, Bool.and_eq_true] at h
    rcases List.mem_cons.1 hm with rfl | hm
    · have h1 := h.1
      simp only [hf, Bool.and_eq_true] at h1
      exact h1
    · exact holdsAt_spec h.2 x hm hf

def endOf (S0 : St) (D : List (Nat × St × St)) : St := match D.getLast? with
  | some x => x.2.2
  | none => S0

@[simp] theorem endOf_nil (S0 : St) : endOf S0 [] = S0 := rfl
@[simp] theorem endOf_snoc (S0 : St) (D : List (Nat × St × St)) (x : Nat × St × St) : endOf S0 (D ++ [x]) = x.2.2 := by simp [endOf]

def ValsIn (vals : Tr VV) (F : Nat → Option VV) : Prop := ∀ j v, vals.get j = some v → F j = some v

/-- what is known of an operation -/
def Fact (P : Program) (ov : Ov) (r : Rec) (ops : Array Oper) (fr : Fr) (S0 : St) (F : Nat → Option VV) (D : List (Nat × St × St)) (Rd : List (Nat × VV)) (i : Nat) : Prop :=
  ∃ o vals, ops[i]? = some o ∧ ValsIn vals F ∧
    ((wantedV ops o (fun d => drawLook ops (Region.before ops) fr vals i d) = some false ∧ F i = some undefV ∧ ∀ x ∈ D, x.1 ≠ i) ∨
     (wantedV ops o (fun d => drawLook ops (Region.before ops) fr vals i d) = some true ∧ kindOf P o.op = 2 ∧ ∃ v S1 S2, (i, S1, S2) ∈ D ∧
        effectV P ov r (drawEv P.globals.size ops (Region.before ops) fr vals i) o.op S1 = some (.returned v, S2) ∧ F i = some v) ∨
     (wantedV ops o (fun d => drawLook ops (Region.before ops) fr vals i d) = some true ∧ kindOf P o.op ≠ 2 ∧ (∀ x ∈ D, x.1 ≠ i) ∧ ∃ v, F i = some v ∧ (i, v) ∈ Rd ∧
        ∀ D1 D2, D = D1 ++ D2 → (∀ x ∈ D1, ¬ befB (Region.before ops) i x.1 = true) → (∀ x ∈ D2, ¬ befB (Region.before ops) x.1 i = true) →
          ∃ vals', ValsIn vals' F ∧ ∃ S', simpleV P (drawEv P.globals.size ops (Region.before ops) fr vals' i) (endOf S0 D1) o.op = some (v, S')))

structure Canon (P : Program) (ov : Ov) (r : Rec) (ops : Array Oper) (fr : Fr) (S0 : St) (C : List Nat) (F : Nat → Option VV) (D : List (Nat × St × St)) (Rd : List (Nat × VV)) : Prop where
  keys : ∀ x ∈ D, x.1 ∈ C
  chain : ∀ D1 x D2, D = D1 ++ x :: D2 → x.2.1 = endOf S0 D1
  ord : D.Pairwise fun x y => befB (Region.before ops) x.1 y.1 = true
  kind : ∀ x ∈ D, ∃ o, ops[x.1]? = some o ∧ kindOf P o.op = 2
  fact : ∀ i ∈ C, Fact P ov r ops fr S0 F D Rd i
  dom : ∀ i v, F i = some v → i ∈ C

/-- one more operation without an effect, or none -/
theorem Fact.mono {F F' : Nat → Option VV} {D : List (Nat × St × St)} {Rd Rd' : List (Nat × VV)} {i : Nat} (hF : ∀ j v, F j = some v → F' j = some v) (hR : ∀ x ∈ Rd, x ∈ Rd') (h : Fact P ov r ops fr S0 F D Rd i) : Fact P ov r ops fr S0 F' D Rd' i := by
  obtain ⟨o, vals, h1, h2, h3⟩ := h
  refine ⟨o, vals, h1, fun j v q => hF _ _ (h2 j v q), ?_⟩
  rcases h3 with ⟨a, b, c⟩ | ⟨a, b, v, S1, S2, c, d, e⟩ | ⟨a, b, c, v, d, e, f⟩
  · exact .inl ⟨a, hF _ _ b, c⟩
  · exact .inr (.inl ⟨a, b, v, S1, S2, c, d, hF _ _ e⟩)
  · refine .inr (.inr ⟨a, b, c, v, hF _ _ d, hR _ e, fun D1 D2 q1 q2 q3 => ?_⟩)
    obtain ⟨vals', x1, x2⟩ := f D1 D2 q1 q2 q3
    exact ⟨vals', fun j v q => hF _ _ (x1 j v q), x2⟩

/-- one more effect: those that are free of it hold behind it -/
theorem Fact.more {F F' : Nat → Option VV} {D : List (Nat × St × St)} {Rd : List (Nat × VV)} {i : Nat} {x : Nat × St × St} (hF : ∀ j v, F j = some v → F' j = some v) (hne : x.1 ≠ i)
    (hb : ¬ befB (Region.before ops) x.1 i = true)
    (hold : ∀ v, (i, v) ∈ Rd → freeV (Region.before ops) i x.1 = true → ∃ o vals, ops[i]? = some o ∧ ValsIn vals F ∧ stableV P (drawEv P.globals.size ops (Region.before ops) fr vals i) o.op v x.2.2 = true)
    (h : Fact P ov r ops fr S0 F D Rd i) : Fact P ov r ops fr S0 F' (D ++ [x]) Rd i := by
  obtain ⟨o, vals, h1, h2, h3⟩ := h
  refine ⟨o, vals, h1, fun j v q => hF _ _ (h2 j v q), ?_⟩
  have hk : (∀ y ∈ D, y.1 ≠ i) → ∀ y ∈ D ++ [x], y.1 ≠ i := fun q y hy => by
    rcases List.mem_append.1 hy with hy | hy
    · exact q y hy
    · rw [List.mem_singleton.1 hy]; exact hne
  rcases h3 with ⟨a, b, c⟩ | ⟨a, b, v, S1, S2, c, d, e⟩ | ⟨a, b, c, v, d, e, f⟩
  · exact .inl ⟨a, hF _ _ b, hk c⟩
  · exact .inr (.inl ⟨a, b, v, S1, S2, List.mem_append_left _ c, d, hF _ _ e⟩)
  · refine .inr (.inr ⟨a, b, hk c, v, hF _ _ d, e, fun D1 D2 q1 q2 q3 => ?_⟩)
    rcases List.eq_nil_or_concat D2 with rfl | ⟨D2', y, rfl⟩
    · rw [List.append_nil] at q1
      subst q1
      have h4 := q2 x (by simp)
      obtain ⟨o', vals', x1, x2, x3⟩ := hold v e (by simp [freeV, h4, hb])
      rw [h1] at x1
      cases x1
      rw [endOf_snoc]
      exact ⟨vals', fun j v q => hF _ _ (x2 j v q), stableV_eq x3⟩
    · rw [List.concat_eq_append, ← List.append_assoc] at q1
      obtain ⟨rfl, q5⟩ := List.append_inj' q1 rfl
      obtain ⟨vals', x1, x2⟩ := f D1 D2' rfl q2 fun z hz => q3 z (by simp [hz])
      exact ⟨vals', fun j v q => hF _ _ (x1 j v q), x2⟩

/-- how a region's order of ours ends -/
def CanonEnd (P : Program) (ov : Ov) (r : Rec) (ops : Array Oper) (fr : Fr) (S0 : St) (cl C : List Nat) (F : Nat → Option VV) (D : List (Nat × St × St)) (L : CodeR) : Prop :=
  (C = cl ∧ ∃ vals : Tr VV, (∀ i v, vals.get i = some v → F i = some v) ∧ L = [(.normal, { fr with t := drawEnd ops.toList vals fr.t 0 }, endOf S0 D)]) ∨
  (∃ i R ch S' o vals, cl = C ++ i :: R ∧ ops[i]? = some o ∧ ValsIn vals F ∧ wantedV ops o (fun d => drawLook ops (Region.before ops) fr vals i d) = some true ∧ kindOf P o.op = 2 ∧
    effectV P ov r (drawEv P.globals.size ops (Region.before ops) fr vals i) o.op (endOf S0 D) = some (.panicked ch, S') ∧ (∀ j ∈ R, befB (Region.before ops) i j = true) ∧
    L = [(.panic ch, { fr with t := drawLost ops.toList fr.t }, S')])

theorem drawGo_canon (hok : DrawOk P ops) : ∀ (l C : List Nat) (s : DrawSt) (L : CodeR), drawGo P ov r ops (Region.before ops) fr l s = some L → Canon P ov r ops fr S0 C s.vals.get s.done.reverse s.reads → endOf S0 s.done.reverse = s.S →
    (C ++ l).Nodup → ((C ++ l).Pairwise fun i j => ¬ befB (Region.before ops) j i = true) → ∃ C' F D Rd, Canon P ov r ops fr S0 C' F D Rd ∧ CanonEnd P ov r ops fr S0 (C ++ l) C' F D L := by
  intro l
  induction l with
  | nil =>
    intro C s L h hC he _ _
    simp only [drawGo, Option.some.injEq] at h
    subst h
    exact ⟨C, s.vals.get, s.done.reverse, s.reads, hC, .inl ⟨by simp, s.vals, fun _ _ q => q, by rw [he]⟩⟩
  | cons i l ih =>
    intro C s L h hC he hnd hpw
    have hiC : i ∉ C := fun q => by
      have := (List.nodup_append.1 hnd).2.2 i q i (by simp)
      exact this rfl
    have hbC : ∀ j ∈ C, ¬ befB (Region.before ops) i j = true := fun j hj => (List.pairwise_append.1 hpw).2.2 j hj i (by simp)
    have hvi : s.vals.get i = none := by
      cases hq : s.vals.get i with
      | none => rfl
      | some v => exact absurd (hC.dom i v hq) hiC
    have grow : ∀ v j u, s.vals.get j = some u → (s.vals.set i v).get j = some u := fun v j u hj => by
      rw [Tr.get_set]
      by_cases e : j = i
      · subst e; rw [hvi] at hj; cases hj
      · rw [if_neg e]; exact hj
    have dom' : ∀ v j u, (s.vals.set i v).get j = some u → j ∈ C ++ [i] := fun v j u hj => by
      rw [Tr.get_set] at hj
      by_cases e : j = i
      · simp [e]
      · rw [if_neg e] at hj; simp [hC.dom j u hj]
    have hass : (C ++ [i]) ++ l = C ++ i :: l := by simp
    have hkeys : ∀ x ∈ s.done.reverse, x.1 ≠ i := fun x hx e => hiC (e ▸ hC.keys x hx)
    simp only [drawGo] at h
    cases ho : ops[i]? with
    | none => simp [ho] at h
    | some o =>
      simp only [ho] at h
      cases hw : wantedV ops o (fun d => drawLook ops (Region.before ops) fr s.vals i d) with
      | none => simp [hw] at h
      | some q =>
        cases q with
        | false =>
          simp only [hw] at h
          have := ih (C ++ [i]) { s with vals := s.vals.set i undefV } L h ⟨fun x hx => by simp [hC.keys x hx], hC.chain, hC.ord, hC.kind, ?_, dom' _⟩ he (by rw [hass]; exact hnd) (by rw [hass]; exact hpw)
          · rw [hass] at this
            exact this
          · intro j hj
            rcases List.mem_append.1 hj with hj | hj
            · exact (hC.fact j hj).mono (grow _) fun _ q => q
            · rw [List.mem_singleton.1 hj]
              exact ⟨o, s.vals, ho, fun j u q => grow _ j u q, .inl ⟨hw, by simp, hkeys⟩⟩
        | true =>
          simp only [hw] at h
          by_cases hk : kindOf P o.op = 2
          · simp only [hk] at h
            cases hef : effectV P ov r (drawEv P.globals.size ops (Region.before ops) fr s.vals i) o.op s.S with
            | none => simp [hef] at h
            | some q =>
              obtain ⟨e, S'⟩ := q
              cases e with
              | panicked ch =>
                simp only [hef] at h
                cases hl : l.all (befB (Region.before ops) i) with
                | false => simp [hl] at h
                | true =>
                  simp only [hl, Option.some.injEq] at h
                  exact ⟨C, s.vals.get, s.done.reverse, s.reads, hC, .inr ⟨i, l, ch, S', o, s.vals, rfl, ho, fun _ _ q => q, hw, hk, by rw [he]; exact hef, fun j hj => List.all_eq_true.1 hl j hj, h.symm⟩⟩
              | returned v =>
                simp only [hef] at h
                cases hrh : readsHold P ops (Region.before ops) fr s.vals i S' s.reads with
                | false => simp [hrh] at h
                | true =>
                  simp only [hrh] at h
                  have := ih (C ++ [i]) { vals := s.vals.set i v, S := S', done := (i, s.S, S') :: s.done, reads := s.reads } L h ?_ (by simp) (by rw [hass]; exact hnd) (by rw [hass]; exact hpw)
                  · rw [hass] at this
                    exact this
                  · refine ⟨?_, ?_, ?_, ?_, ?_, dom' _⟩
                    · intro x hx
                      rw [List.reverse_cons] at hx
                      rcases List.mem_append.1 hx with hx | hx
                      · simp [hC.keys x hx]
                      · rw [List.mem_singleton.1 hx]; simp
                    · intro D1 x D2 hD
                      rw [List.reverse_cons] at hD
                      rcases List.eq_nil_or_concat D2 with rfl | ⟨D2', y, rfl⟩
                      · obtain ⟨q1, q2⟩ := List.append_inj' hD rfl
                        simp only [List.cons.injEq, and_true] at q2
                        rw [← q2, ← q1]
                        exact he.symm
                      · rw [List.concat_eq_append, ← List.cons_append, ← List.append_assoc] at hD
                        obtain ⟨q1, q2⟩ := List.append_inj' hD rfl
                        exact hC.chain D1 x D2' q1
                    · rw [List.reverse_cons, List.pairwise_append]
                      refine ⟨hC.ord, by simp, fun x hx y hy => ?_⟩
                      rw [List.mem_singleton.1 hy]
                      obtain ⟨ox, hox, hkx⟩ := hC.kind x hx
                      rcases hok.total i o ho hk x.1 ox hox hkx with e | e | e
                      · exact absurd e.symm (hkeys x hx)
                      · exact e
                      · exact absurd e (hbC x.1 (hC.keys x hx))
                    · intro x hx
                      rw [List.reverse_cons] at hx
                      rcases List.mem_append.1 hx with hx | hx
                      · exact hC.kind x hx
                      · rw [List.mem_singleton.1 hx]; exact ⟨o, ho, hk⟩
                    · intro j hj
                      rw [List.reverse_cons]
                      rcases List.mem_append.1 hj with hj | hj
                      · refine (hC.fact j hj).more (x := (i, s.S, S')) (grow _) (fun e => hiC (by rw [show i = j from e]; exact hj)) (hbC j hj) fun u hu hf => ?_
                        obtain ⟨o', q1, q2⟩ := readsHold_spec hrh j u hu hf
                        exact ⟨o', s.vals, q1, fun _ _ q => q, q2⟩
                      · rw [List.mem_singleton.1 hj]
                        exact ⟨o, s.vals, ho, fun j u q => grow _ j u q, .inr (.inl ⟨hw, hk, v, s.S, S', by simp, hef, by simp⟩)⟩
          · have h' : (match simpleV P (drawEv P.globals.size ops (Region.before ops) fr s.vals i) s.S o.op with
                | some (v, _) => match holdsAt P (drawEv P.globals.size ops (Region.before ops) fr s.vals i) o.op v (Region.before ops) i s.done with
                  | true => drawGo P ov r ops (Region.before ops) fr l { s with vals := s.vals.set i v, reads := (i, v) :: s.reads }
                  | false => none
                | none => none) = some L := by
              generalize kindOf P o.op = kd at h hk
              match kd, h, hk with
              | 0, h, _ => exact h
              | 1, h, _ => exact h
              | 2, _, hk => exact absurd rfl hk
              | n + 3, h, _ => exact h
            cases hsv : simpleV P (drawEv P.globals.size ops (Region.before ops) fr s.vals i) s.S o.op with
            | none => simp [hsv] at h'
            | some q =>
              obtain ⟨v, Sx⟩ := q
              simp only [hsv] at h'
              cases hha : holdsAt P (drawEv P.globals.size ops (Region.before ops) fr s.vals i) o.op v (Region.before ops) i s.done with
              | false => simp [hha] at h'
              | true =>
                simp only [hha] at h'
                have := ih (C ++ [i]) { s with vals := s.vals.set i v, reads := (i, v) :: s.reads } L h' ⟨fun x hx => by simp [hC.keys x hx], hC.chain, hC.ord, hC.kind, ?_, dom' _⟩ he (by rw [hass]; exact hnd) (by rw [hass]; exact hpw)
                · rw [hass] at this
                  exact this
                · intro j hj
                  rcases List.mem_append.1 hj with hj | hj
                  · exact (hC.fact j hj).mono (grow _) fun _ q => by simp [q]
                  · rw [List.mem_singleton.1 hj]
                    refine ⟨o, s.vals, ho, fun j u q => grow _ j u q, .inr (.inr ⟨hw, hk, hkeys, v, by simp, by simp, fun D1 D2 q1 q2 q3 => ⟨s.vals, fun j u q => grow _ j u q, ?_⟩⟩)⟩
                    cases D2 with
                    | nil =>
                      rw [List.append_nil] at q1
                      rw [← q1, he]
                      exact ⟨Sx, hsv⟩
                    | cons x D2 =>
                      have hx : x ∈ s.done := by
                        have : x ∈ s.done.reverse := by rw [show s.done.reverse = D1 ++ x :: D2 from q1]; simp
                        simpa using this
                      have hf : freeV (Region.before ops) x.1 i = true := by
                        have a1 := q3 x (by simp)
                        have a2 := hbC x.1 (hC.keys x (by simpa using hx))
                        simp [freeV, a1, a2]
                      rw [← hC.chain D1 x D2 q1]
                      exact stableV_eq (holdsAt_spec hha x hx hf).1

end Go.Vm
