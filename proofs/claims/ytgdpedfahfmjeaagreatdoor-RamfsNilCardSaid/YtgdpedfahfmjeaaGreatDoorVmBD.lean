/-
  A virtual semantics of the model's code (30): regions that draw their order.
-/
import Derived.Test.YtgdpedfahfmjeaaGreatDoorVmBC
namespace Go.Vm
variable {P : Program} {ov : Ov} {r : Rec} {ops : Array Oper} {fr : Fr} {S0 S : St} {ρ ρ0 : Ren} {w w0 : World}

theorem effectV_sound (hs : Sounds P ov r) {o : Oper} {e : Operand → VV} {a : Act} (he : ∀ x, VRel ρ (e x) (a.eval x)) {en : En} {S' : St} (h : effectV P ov r e o.op S = some (en, S')) (hS : Sim P.globals.size ρ S w) (c : Frame) (cs : List Frame) (hc : Plain c) :
    (∀ d, o.op ≠ .defer d) ∧ (∀ x y, o.op ≠ .select x y) ∧ ∃ ρ' w', Goes P.globals.size ρ S w ρ' S' w' ∧ Goes1 P ρ' c cs (execOp a.eval o) w w' en := by
  have simple : (match simpleV P e S o.op with
      | some (v, S) => some (En.returned v, S)
      | none => none) = some (en, S') → ∃ ρ' w', Goes P.globals.size ρ S w ρ' S' w' ∧ Goes1 P ρ' c cs (execOp a.eval o) w w' en := fun h => by
    cases hsv : simpleV P e S o.op with
    | none => simp [hsv] at h
    | some q =>
      obtain ⟨v, S1⟩ := q
      simp only [hsv, Option.some.injEq, Prod.mk.injEq] at h
      obtain ⟨rfl, rfl⟩ := h
      obtain ⟨ρ1, w1, ⟨v', hrun, hv⟩, hg, _⟩ := simpleV_sound (P := P) hS he hsv
      refine ⟨ρ1, w1, hg, v', hv, ?_⟩
      rcases hrun with hrun | ⟨hrun, rfl⟩
      · exact ⟨_, _, _, apply_value hrun, .refl _ _⟩
      · exact ⟨_, _, _, apply_skip hrun, .refl _ _⟩
  unfold effectV at h
  cases hop : o.op <;> simp only [hop, reduceCtorEq] at h
  case call cl =>
    refine ⟨by simp, by simp, ?_⟩
    have calls : (match calleeV e cl with
        | none => none
        | some (fn, args) => match callV P ov r fn args S with
          | some [(x, _, S)] => some (x, S)
          | _ => none) = some (en, S') → ∃ ρ' w', Goes P.globals.size ρ S w ρ' S' w' ∧ Goes1 P ρ' c cs (execOp a.eval o) w w' en := fun h => by
      cases hcl : calleeV e cl with
      | none => simp [hcl] at h
      | some q =>
        obtain ⟨fn, args⟩ := q
        simp only [hcl] at h
        obtain ⟨fn', first, captured, q1, q2, q3, _, q5⟩ := callee_rel (P := P) he hop hcl
        cases hcv : callV P ov r fn args S with
        | none => simp [hcv] at h
        | some l =>
          match l, hcv, h with
          | [(x, rc, S1)], hcv, h =>
            simp only [hcv, Option.some.injEq, Prod.mk.injEq] at h
            obtain ⟨rfl, rfl⟩ := h
            obtain ⟨e', rc', S2, hm, ρ1, w1, hg, hgo⟩ := callV_sound hs.rec_ hs.ov_ hs.count hs.call hcv hS q1 q2 rfl (s := execOp a.eval o) (q3 w) q5 c cs hc
            simp only [List.mem_singleton, Prod.mk.injEq] at hm
            obtain ⟨rfl, rfl, rfl⟩ := hm
            exact ⟨ρ1, w1, hg, hgo⟩
          | [], hcv, h => simp [hcv] at h
          | _ :: _ :: _, hcv, h => simp [hcv] at h
    cases hcc : cl.callee with
    | value f => simp only [hcc] at h; exact calls h
    | invoke rr m => simp only [hcc] at h; exact calls h
    | builtin bb =>
      have h' : bb ≠ .recover ∧ (match simpleV P e S o.op with
          | some (v, S) => some (En.returned v, S)
          | none => none) = some (en, S') := by
        rw [hop]
        cases bb <;> first | (simp only [hcc, reduceCtorEq] at h; done) | (simp only [hcc] at h; exact ⟨by simp, h⟩)
      exact simple h'.2
  case select => simp [simpleV] at h
  all_goals exact ⟨by simp, by simp, simple (by rw [hop]; exact h)⟩

/-- the machine in the midst of a region -/
structure MInv (P : Program) (ops : Array Oper) (F : Nat → Option VV) (D : List (Nat × St × St)) (ρ0 : Ren) (S0 : St) (w0 : World) (a0 : Act) (E : List Nat) (D1 D2 : List (Nat × St × St)) (ρ : Ren) (w : World) (a : Act) : Prop where
  goes : Goes P.globals.size ρ0 S0 w0 ρ (endOf S0 D1) w
  split : D = D1 ++ D2
  in1 : ∀ x ∈ D1, x.1 ∈ E
  in2 : ∀ x ∈ D2, x.1 ∉ E
  size : a.tmps.size = a0.tmps.size
  slots : ∀ t, (∃ j ∈ E, ∃ o, ops[j]? = some o ∧ o.dst = some t ∧ ∀ v, F j = some v → VRel ρ v (a.tmps.getD t undef)) ∨
    ((∀ j ∈ E, ∀ o, ops[j]? = some o → o.dst ≠ some t) ∧ a.tmps.getD t undef = a0.tmps.getD t undef)
  defers : a.defers = a0.defers

/-- an operation that goes next sees what it should -/
theorem env_at (hok : DrawOk P ops) {l : List Nat} (hl : Topo ops l) {E R : List Nat} {i : Nat} (he : l = E ++ i :: R) {o : Oper} (ho : ops[i]? = some o) {F : Nat → Option VV} {D D1 D2 : List (Nat × St × St)} {a0 a : Act}
    (hm : MInv P ops F D ρ0 S0 w0 a0 E D1 D2 ρ w a) (hfr : TRel ρ0 fr.t fr.n a0.tmps) :
    ∃ a' : Act, (∀ vals, ValsIn vals F → ∀ t v, drawLook ops (Region.before ops) fr vals i t = some v → VRel ρ v (a'.tmps.getD t undef)) ∧ (∀ t ∈ looksV ops o, a'.tmps[t]? = a.tmps[t]?) := by
  let cond : Tmp → Bool := fun t => match writerOf ops.toList t 0 with
    | some j => befB (Region.before ops) j i
    | none => false
  let tm : Array Value := (Array.range a0.tmps.size).map fun t => if cond t then a.tmps.getD t undef else a0.tmps.getD t undef
  have hget : ∀ t, tm[t]? = if t < a0.tmps.size then some (if cond t then a.tmps.getD t undef else a0.tmps.getD t undef) else none := fun t => by
    simp only [tm, Array.getElem?_map, Array.getElem?_range]
    by_cases h : t < a0.tmps.size
    · rw [if_pos h, if_pos h]; rfl
    · rw [if_neg h, if_neg h]; rfl
  have hgetD : ∀ t, tm.getD t undef = if cond t then a.tmps.getD t undef else a0.tmps.getD t undef := fun t => by
    rw [Array.getD_eq_getD_getElem?, hget]
    by_cases h : t < a0.tmps.size
    · simp [h]
    · have h1 : a0.tmps.getD t undef = undef := by rw [Array.getD_eq_getD_getElem?, Array.getElem?_eq_none (by omega)]; rfl
      have h2 : a.tmps.getD t undef = undef := by rw [Array.getD_eq_getD_getElem?, Array.getElem?_eq_none (by have := hm.size; omega)]; rfl
      rw [h1, h2]
      simp [h]
  have hiE : i ∉ E := fun q => by
    have := hl.nodup
    rw [he] at this
    exact (List.nodup_append.1 this).2.2 i q i (by simp) rfl
  refine ⟨{ tmps := tm, defers := a.defers }, ?_, ?_⟩
  · intro vals hvals t v hv
    show VRel ρ v (tm.getD t undef)
    rw [hgetD]
    unfold drawLook at hv
    cases hw : writerOf ops.toList t 0 with
    | none =>
      simp only [hw] at hv
      simp only [cond, hw]
      exact (hfr.2 t v hv).mono hm.goes.ext
    | some j =>
      simp only [hw] at hv
      cases hb : befB (Region.before ops) j i with
      | false =>
        simp only [hb] at hv
        simp only [cond, hw, hb]
        exact (hfr.2 t v hv).mono hm.goes.ext
      | true =>
        simp only [hb] at hv
        simp only [cond, hw, hb, if_true]
        have hjE := hl.bef E i R he j hb
        obtain ⟨oj, q1, q2⟩ := writerOf_some hw
        rcases hm.slots t with ⟨j', _, o', h1, h2, h3⟩ | ⟨h1, _⟩
        · have : j' = j := hok.one j' o' t h1 h2 j oj q1 q2
          subst this
          exact h3 v (hvals _ _ hv)
        · exact absurd q2 (h1 j hjE oj q1)
  · intro t ht
    show tm[t]? = a.tmps[t]?
    rw [hget]
    have key : (if cond t then a.tmps.getD t undef else a0.tmps.getD t undef) = a.tmps.getD t undef := by
      cases hw : writerOf ops.toList t 0 with
      | none =>
        simp only [cond, hw]
        rcases hm.slots t with ⟨j', _, o', h1, h2, _⟩ | ⟨_, h2⟩
        · exact absurd h2 (writerOf_none hw j' o' h1)
        · simpa using h2.symm
      | some j =>
        cases hb : befB (Region.before ops) j i with
        | true => simp only [cond, hw, hb, if_true]
        | false =>
          simp only [cond, hw, hb]
          obtain ⟨oj, q1, q2⟩ := writerOf_some hw
          rcases hm.slots t with ⟨j', hj', o', h1, h2, _⟩ | ⟨_, h2⟩
          · have : j' = j := hok.one j' o' t h1 h2 j oj q1 q2
            subst this
            rcases hok.looks i o ho t ht _ hw with e | e | e
            · subst e; exact absurd hj' hiE
            · rw [hb] at e; cases e
            · -- the writer is behind: it is not done
              obtain ⟨E1, E2, rfl⟩ := List.append_of_mem hj'
              have := hl.bef E1 j' (E2 ++ i :: R) (by rw [he]; simp) i e
              exact absurd (by simp [this]) hiE
          · simpa using h2.symm
    rw [key]
    by_cases h : t < a0.tmps.size
    · have : t < a.tmps.size := by rw [hm.size]; exact h
      rw [if_pos h, Array.getD_eq_getD_getElem?, Array.getElem?_eq_getElem this]
      rfl
    · rw [if_neg h, Array.getElem?_eq_none (xs := a.tmps) (Nat.not_lt.1 (by rw [hm.size]; exact h))]

theorem wanted_congr {o : Oper} {t t' : Array Value} (h : ∀ d ∈ looksV ops o, t[d]? = t'[d]?) : Region.wanted o (yielded ops t) = Region.wanted o (yielded ops t') := by
  unfold Region.wanted
  cases hg : o.guard with
  | none => rfl
  | some p =>
    obtain ⟨j, want⟩ := p
    have : yielded ops t j = yielded ops t' j := by
      unfold yielded
      cases hj : ops[j]? with
      | none => rfl
      | some g =>
        cases hd : g.dst with
        | none => simp [hd]
        | some d =>
          simp only [Option.bind_some, hd]
          rw [h d (by simp [looksV, hg, hj, hd])]
    simp only [this]

theorem exec_congr {o : Oper} {a a' : Act} (hsel : ∀ x y, o.op ≠ .select x y) (h : ∀ t ∈ looksV ops o, a'.tmps[t]? = a.tmps[t]?) : execOp a'.eval o = execOp a.eval o := by
  refine execOp_congr o hsel fun x hx => ?_
  cases x with
  | tmp t =>
    have ht : t ∈ looksV ops o := by
      unfold looksV
      refine List.mem_append_left _ (List.mem_filterMap.2 ⟨.tmp t, by simpa using hx, rfl⟩)
    simp only [Act.eval, Array.getD_eq_getD_getElem?, h t ht]
  | _ => rfl

/-- an operation is done -/
theorem MInv.put {F : Nat → Option VV} {D D1 D2 D1' D2' : List (Nat × St × St)} {a0 a : Act} {E : List Nat} {i : Nat} {o : Oper} {ρ' : Ren} {w' : World} {v' : Value} (hok : DrawOk P ops) (hm : MInv P ops F D ρ0 S0 w0 a0 E D1 D2 ρ w a) (ho : ops[i]? = some o)
    (hg : Goes P.globals.size ρ (endOf S0 D1) w ρ' (endOf S0 D1') w') (hs : D = D1' ++ D2') (h1 : ∀ x ∈ D1', x.1 ∈ E ++ [i]) (h2 : ∀ x ∈ D2', x.1 ∉ E ++ [i])
    (hfit : ∀ d, o.dst = some d → d < a0.tmps.size) (hv : ∀ v, F i = some v → VRel ρ' v v') : MInv P ops F D ρ0 S0 w0 a0 (E ++ [i]) D1' D2' ρ' w' (a.put o.dst v') := by
  refine ⟨hm.goes.trans hg, hs, h1, h2, ?_, ?_, ?_⟩
  · cases o.dst <;> simp [Act.put, hm.size]
  · intro t
    by_cases ht : o.dst = some t
    · refine .inl ⟨i, by simp, o, ho, ht, fun v hF => ?_⟩
      rw [ht]
      simp only [Act.put, Array.getD_eq_getD_getElem?]
      rw [Array.getElem?_setIfInBounds_self_of_lt (by rw [hm.size]; exact hfit t ht)]
      exact hv v hF
    · have hsame : (a.put o.dst v').tmps.getD t undef = a.tmps.getD t undef := by
        cases hd : o.dst with
        | none => rfl
        | some d =>
          have : d ≠ t := fun e => ht (by rw [hd, e])
          simp [Act.put, Array.getD_eq_getD_getElem?, Array.getElem?_setIfInBounds_ne this]
      rw [hsame]
      rcases hm.slots t with ⟨j, hj, oj, q1, q2, q3⟩ | ⟨q1, q2⟩
      · exact .inl ⟨j, by simp [hj], oj, q1, q2, fun v hF => (q3 v hF).mono hg.ext⟩
      · refine .inr ⟨fun j hj oj hoj => ?_, q2⟩
        rcases List.mem_append.1 hj with hj | hj
        · exact q1 j hj oj hoj
        · rw [List.mem_singleton.1 hj, ho] at hoj
          cases hoj
          exact ht
  · cases o.dst <;> exact hm.defers

theorem drawEnd_rel {tmps : Array Value} {vals : Tr VV} : ∀ (l : List Oper) (i : Nat) (t : Tr VV), (∀ d v, t.get d = some v → VRel ρ v (tmps.getD d undef) ∨ ∃ o ∈ l, o.dst = some d) →
    (∀ k o d v, l[k]? = some o → o.dst = some d → vals.get (i + k) = some v → VRel ρ v (tmps.getD d undef)) → ∀ d v, (drawEnd l vals t i).get d = some v → VRel ρ v (tmps.getD d undef)
  | [], i, t, h, _, d, v, hd => by
    rcases h d v hd with h | ⟨o, ho, _⟩
    · exact h
    · cases ho
  | o :: l, i, t, h, hv, d, v, hd => by
    have hv' : ∀ k o d v, l[k]? = some o → o.dst = some d → vals.get (i + 1 + k) = some v → VRel ρ v (tmps.getD d undef) := fun k o' d v h1 h2 h3 => hv (k + 1) o' d v (by simpa using h1) h2 (by rw [← h3]; congr 1; omega)
    have step : ∀ d0 u, o.dst = some d0 → VRel ρ u (tmps.getD d0 undef) → ∀ d v, (t.set d0 u).get d = some v → VRel ρ v (tmps.getD d undef) ∨ ∃ o ∈ l, o.dst = some d := fun d0 u hd0 hu d v hg => by
      rw [Tr.get_set] at hg
      by_cases e : d = d0
      · subst e
        simp only [if_true, Option.some.injEq] at hg
        subst hg
        exact .inl hu
      · rw [if_neg e] at hg
        rcases h d v hg with h | ⟨o', ho', hd'⟩
        · exact .inl h
        · rcases List.mem_cons.1 ho' with rfl | ho'
          · rw [hd0] at hd'; cases hd'; exact absurd rfl e
          · exact .inr ⟨o', ho', hd'⟩
    simp only [drawEnd] at hd
    cases hdst : o.dst with
    | none =>
      simp only [hdst] at hd
      refine drawEnd_rel l (i + 1) t (fun d v hg => ?_) hv' d v hd
      rcases h d v hg with h | ⟨o', ho', hd'⟩
      · exact .inl h
      · rcases List.mem_cons.1 ho' with rfl | ho'
        · rw [hdst] at hd'; cases hd'
        · exact .inr ⟨o', ho', hd'⟩
    | some d0 =>
      cases hvi : vals.get i with
      | none =>
        simp only [hdst, hvi, Tr.with_eq] at hd
        exact drawEnd_rel l (i + 1) _ (step d0 .any hdst (.any _)) hv' d v hd
      | some u =>
        simp only [hdst, hvi, Tr.with_eq] at hd
        exact drawEnd_rel l (i + 1) _ (step d0 u hdst (hv 0 o d0 u (by simp) hdst (by simpa using hvi))) hv' d v hd

theorem drawLost_rel {tmps : Array Value} : ∀ (l : List Oper) (t : Tr VV), (∀ d v, t.get d = some v → VRel ρ v (tmps.getD d undef) ∨ ∃ o ∈ l, o.dst = some d) → ∀ d v, (drawLost l t).get d = some v → VRel ρ v (tmps.getD d undef)
  | [], t, h, d, v, hd => by
    rcases h d v hd with h | ⟨o, ho, _⟩
    · exact h
    · cases ho
  | o :: l, t, h, d, v, hd => by
    simp only [drawLost] at hd
    cases hdst : o.dst with
    | none =>
      simp only [hdst] at hd
      refine drawLost_rel l t (fun d v hg => ?_) d v hd
      rcases h d v hg with h | ⟨o', ho', hd'⟩
      · exact .inl h
      · rcases List.mem_cons.1 ho' with rfl | ho'
        · rw [hdst] at hd'; cases hd'
        · exact .inr ⟨o', ho', hd'⟩
    | some d0 =>
      simp only [hdst, Tr.with_eq] at hd
      refine drawLost_rel l _ (fun d v hg => ?_) d v hd
      rw [Tr.get_set] at hg
      by_cases e : d = d0
      · subst e
        simp only [if_true, Option.some.injEq] at hg
        subst hg
        exact .inl (.any _)
      · rw [if_neg e] at hg
        rcases h d v hg with h | ⟨o', ho', hd'⟩
        · exact .inl h
        · rcases List.mem_cons.1 ho' with rfl | ho'
          · rw [hdst] at hd'; cases hd'; exact absurd rfl e
          · exact .inr ⟨o', ho', hd'⟩

end Go.Vm
