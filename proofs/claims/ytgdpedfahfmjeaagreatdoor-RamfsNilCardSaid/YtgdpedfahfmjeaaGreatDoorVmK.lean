/-
  A virtual semantics of the model's code (11): more operations that leave the state as it is.
-/
import Derived.Test.YtgdpedfahfmjeaaGreatDoorVmJ
namespace Go.Vm
variable {P : Program} {G : Nat} {ρ : Ren} {S : St} {w : World}

theorem r_index {t : TypeId} {x ix v : VV} {x' ix' : Value} (h : indexV P t x ix = some v) (hx : VRel ρ x x') (hi : VRel ρ ix ix') (w : World) : ∃ v', (Instr.index t x' ix').run P w = .ok v' w ∧ VRel ρ v v' := by
  unfold indexV at h
  cases hi <;> simp only [reduceCtorEq] at h
  rename_i k i
  split at h
  · rename_i h0
    cases hu : P.underlying t with
    | none => simp [hu] at h
    | some d =>
      cases d <;> simp only [hu, reduceCtorEq] at h
      case array len e =>
        cases hx <;> try (simp only [reduceCtorEq] at h; done)
        rename_i cs cs' hc
        cases hs : sizeV P e with
        | none => simp [hs] at h
        | some z =>
          simp only [hs] at h
          cases hb : Nat.blt i.toNat len with
          | false => simp [hb] at h
          | true =>
            simp only [hb] at h
            have hb' : i.toNat < len := by simpa [Nat.blt_eq] using hb
            have h2 : (0 ≤ i ∧ i < (len : Int)) := ⟨h0, by omega⟩
            obtain ⟨v', e1, e2⟩ := r_part h hc w
            exact ⟨v', by simp only [Instr.index, asIntOf, Sem.run_bind, Sem.run_pure, Result.andThen_ok, r_underlying hu, Sem.run_ite, if_pos h2, r_sizeOf hs, e1], e2⟩
      case string =>
        cases hx <;> try (simp only [reduceCtorEq] at h; done)
        rename_i s
        cases hg : s.data.toList[i.toNat]? with
        | none => simp only [hg, reduceCtorEq] at h
        | some b =>
          simp only [hg, Option.some.injEq] at h
          subst h
          have hg' : s[i.toNat]? = some b := by
            have hl : i.toNat < s.size := by
              rcases Nat.lt_or_ge i.toNat s.data.toList.length with q | q
              · simpa using q
              · rw [List.getElem?_eq_none q] at hg; cases hg
            rw [getElem?_pos s i.toNat hl]
            congr 1
            rw [List.getElem?_eq_getElem (by simpa using hl)] at hg
            simp only [Option.some.injEq] at hg
            rw [← hg]
            rfl
          refine ⟨.int .u8 b.toNat, ?_, .int _ _⟩
          simp only [Instr.index, asIntOf, Sem.run_bind, Sem.run_pure, Result.andThen_ok, r_underlying hu, if_pos h0, hg']
  · cases h

/- bounds -/
theorem r_bound {x : VV} {x' : Value} {y i : Nat} {code : BoundsCode} (h : boundV x y = some i) (hx : VRel ρ x x') (w : World) : (Instr.sliceBound x' y code).run P w = .ok i w ∧ i ≤ y := by
  unfold boundV at h
  cases hx <;> simp only [reduceCtorEq] at h
  rename_i k n
  split at h
  · rename_i h0
    cases hb : Nat.ble n.toNat y with
    | false => simp [hb] at h
    | true =>
      simp only [hb, Option.some.injEq] at h
      subst h
      have hb' := Nat.le_of_ble_eq_true hb
      have h2 : (0 ≤ n ∧ n ≤ (y : Int)) := ⟨h0, by omega⟩
      exact ⟨by simp only [Instr.sliceBound, asIntOf, Sem.run_bind, Sem.run_pure, Result.andThen_ok, Sem.run_ite, if_pos h2], hb'⟩
  · cases h

inductive OptRel (ρ : Ren) : Option VV → Option Value → Prop where
  | none : OptRel ρ none none
  | some {v : VV} {v' : Value} (h : VRel ρ v v') : OptRel ρ (some v) (some v')

theorem OptRel.map {e : Operand → VV} {e' : Operand → Value} (he : ∀ x, VRel ρ (e x) (e' x)) (o : Option Operand) : OptRel ρ (o.map e) (o.map e') := by
  cases o with
  | none => exact .none
  | some x => exact .some (he x)

/-- the bounds, where the virtual ones are reckoned with no more than there is -/
theorem r_bounds {lo hi mx : Option VV} {lo' hi' mx' : Option Value} {isSlice : Bool} {len n cap l h m : Nat} (hb : boundsV len n lo hi mx = some (l, h, m)) (hl : OptRel ρ lo lo') (hh : OptRel ρ hi hi') (hm : OptRel ρ mx mx')
    (hno : hi = none → mx = none) (hn : n ≤ cap) (w : World) :
    ∃ m', (Instr.sliceBounds isSlice len cap lo' hi' mx').run P w = .ok (l, h, m') w ∧ l ≤ h ∧ (len ≤ n → h ≤ n) ∧ m ≤ n ∧ ((mx = none ∧ m' = cap ∧ m = n) ∨ m' = m) := by
  unfold boundsV at hb
  cases hm with
  | none =>
    simp only [optBoundV] at hb
    cases hh with
    | none =>
      simp only [optBoundV] at hb
      cases hl with
      | none =>
        simp only [optBoundV, Option.some.injEq, Prod.mk.injEq] at hb
        obtain ⟨rfl, rfl, rfl⟩ := hb
        exact ⟨cap, rfl, by omega, fun x => x, Nat.le_refl _, .inl ⟨rfl, rfl, rfl⟩⟩
      | some hv =>
        simp only [optBoundV] at hb
        split at hb
        · cases hb
        · rename_i l0 hl0
          simp only [Option.some.injEq, Prod.mk.injEq] at hb
          obtain ⟨rfl, rfl, rfl⟩ := hb
          obtain ⟨e1, e2⟩ := r_bound (P := P) (code := .sliceB) hl0 hv w
          exact ⟨cap, by simp [Instr.sliceBounds, e1], e2, fun x => x, Nat.le_refl _, .inl ⟨rfl, rfl, rfl⟩⟩
    | some hv =>
      simp only [optBoundV] at hb
      split at hb
      · cases hb
      · rename_i h0 hh0
        obtain ⟨_, e2⟩ := r_bound (P := P) (code := .sliceB) hh0 hv w
        have e1 : ∀ code, (Instr.sliceBound _ cap code).run P w = .ok h0 w := fun code => (r_bound (P := P) (y := cap) (code := code) (by
          unfold boundV at hh0 ⊢
          cases hv <;> simp only [reduceCtorEq] at hh0 ⊢
          split at hh0
          · rename_i q0
            simp only [q0, if_true]
            split at hh0
            · rename_i q1
              simp only [Option.some.injEq] at hh0
              have := Nat.le_of_ble_eq_true q1
              rw [Nat.ble_eq.mpr (by omega : _ ≤ cap)]
              simp [hh0]
            · cases hh0
          · cases hh0) hv w).1
        cases hl with
        | none =>
          simp only [optBoundV, Option.some.injEq, Prod.mk.injEq] at hb
          obtain ⟨rfl, rfl, rfl⟩ := hb
          exact ⟨cap, by simp [Instr.sliceBounds, e1], by omega, fun _ => e2, Nat.le_refl _, .inl ⟨rfl, rfl, rfl⟩⟩
        | some hv2 =>
          simp only [optBoundV] at hb
          split at hb
          · cases hb
          · rename_i l0 hl0
            simp only [Option.some.injEq, Prod.mk.injEq] at hb
            obtain ⟨rfl, rfl, rfl⟩ := hb
            obtain ⟨e3, e4⟩ := r_bound (P := P) (code := .sliceB) hl0 hv2 w
            exact ⟨cap, by simp [Instr.sliceBounds, e1, e3], e4, fun _ => e2, Nat.le_refl _, .inl ⟨rfl, rfl, rfl⟩⟩
  | some hmv =>
    simp only [optBoundV] at hb
    split at hb
    · cases hb
    · rename_i m0 hm0
      obtain ⟨_, em2⟩ := r_bound (P := P) (code := .sliceB) hm0 hmv w
      have em1 : ∀ code, (Instr.sliceBound _ cap code).run P w = .ok m0 w := fun code => (r_bound (P := P) (y := cap) (code := code) (by
          unfold boundV at hm0 ⊢
          cases hmv <;> simp only [reduceCtorEq] at hm0 ⊢
          split at hm0
          · rename_i q0
            simp only [q0, if_true]
            split at hm0
            · rename_i q1
              simp only [Option.some.injEq] at hm0
              have := Nat.le_of_ble_eq_true q1
              rw [Nat.ble_eq.mpr (by omega : _ ≤ cap)]
              simp [hm0]
            · cases hm0
          · cases hm0) hmv w).1
      cases hh with
      | none => exact absurd (hno rfl) (by simp)
      | some hv =>
        simp only [optBoundV] at hb
        split at hb
        · cases hb
        · rename_i h0 hh0
          have e1 : ∀ code, (Instr.sliceBound _ m0 code).run P w = .ok h0 w := fun code => (r_bound (P := P) (code := code) hh0 hv w).1
          obtain ⟨_, e2⟩ := r_bound (P := P) (code := .sliceB) hh0 hv w
          cases hl with
          | none =>
            simp only [optBoundV, Option.some.injEq, Prod.mk.injEq] at hb
            obtain ⟨rfl, rfl, rfl⟩ := hb
            exact ⟨m0, by simp [Instr.sliceBounds, em1, e1], by omega, fun _ => by omega, em2, .inr rfl⟩
          | some hv2 =>
            simp only [optBoundV] at hb
            split at hb
            · cases hb
            · rename_i l0 hl0
              simp only [Option.some.injEq, Prod.mk.injEq] at hb
              obtain ⟨rfl, rfl, rfl⟩ := hb
              have e3 : ∀ code, (Instr.sliceBound _ h0 code).run P w = .ok l0 w := fun code => (r_bound (P := P) (code := code) hl0 hv2 w).1
              obtain ⟨_, e4⟩ := r_bound (P := P) (code := .sliceB) hl0 hv2 w
              exact ⟨m0, by simp [Instr.sliceBounds, em1, e1, e3], e4, fun _ => by omega, em2, .inr rfl⟩

theorem boundsV_le {d n : Nat} {lo hi mx : Option VV} {l h m : Nat} (hb : boundsV d n lo hi mx = some (l, h, m)) (hh : hi ≠ none) : h ≤ m := by
  unfold boundsV at hb
  split at hb
  · cases hb
  · split at hb
    · cases hb
    · rename_i q
      split at hb
      · cases hb
      · simp only [Option.some.injEq, Prod.mk.injEq] at hb
        obtain ⟨_, rfl, rfl⟩ := hb
        cases hi with
        | none => exact absurd rfl hh
        | some v =>
          simp only [optBoundV, boundV] at q
          split at q
          · split at q
            · split at q
              · rename_i q1
                simp only [Option.some.injEq] at q
                subst q
                exact Nat.le_of_ble_eq_true q1
              · cases q
            · cases q
          · cases q

theorem map_add (r o n : Nat) : Option.map (fun (x : Addr) => x.add n) (some ⟨r, o, none⟩) = some ⟨r, o + n, none⟩ := by simp [Addr.add_none]

theorem r_slice {t : TypeId} {x v : VV} {x' : Value} {lo hi mx : Option VV} {lo' hi' mx' : Option Value} (h : sliceV P t x lo hi mx = some v) (hx : VRel ρ x x') (hl : OptRel ρ lo lo') (hh : OptRel ρ hi hi') (hm : OptRel ρ mx mx') (w : World) :
    ∃ v', (Instr.sliceAt t x' lo' hi' mx').run P w = .ok v' w ∧ VRel ρ v v' := by
  unfold sliceV at h
  cases hu : P.underlying t with
  | none => simp [hu] at h
  | some d =>
    cases d <;> simp only [hu, reduceCtorEq] at h
    case array n e =>
      cases hx <;> try (simp only [reduceCtorEq] at h; done)
      rename_i id r b k off hρ
      cases hs : sizeV P e with
      | none => simp [hs] at h
      | some z =>
        simp only [hs] at h
        split at h
        · cases h
        · rename_i hno
          cases hb : boundsV n n lo hi mx with
          | none => simp [hb] at h
          | some q =>
            obtain ⟨l, h', m⟩ := q
            simp only [hb, Option.some.injEq] at h
            subst h
            obtain ⟨m', e1, e2, e3, e4, e5⟩ := r_bounds (P := P) (isSlice := false) (cap := n) hb hl hh hm (fun q => Decidable.byContradiction fun q2 => hno ⟨q, q2⟩) (Nat.le_refl _) w
            have em : m' = m := by rcases e5 with ⟨_, q1, q2⟩ | q <;> omega
            subst em
            by_cases hml : m' = l
            · exact ⟨.slice (some ⟨r, b + off, none⟩) (h' - l) (m' - l), by simp only [Instr.sliceAt, Sem.run_bind, r_underlying hu, Result.andThen_ok, Instr.sureAddr, Sem.run_pure, e1, r_sizeOf hs, if_pos hml], by rw [if_pos hml]; exact .slice _ _ hρ⟩
            · exact ⟨.slice (some ⟨r, b + off + l * z, none⟩) (h' - l) (m' - l), by simp only [Instr.sliceAt, Sem.run_bind, r_underlying hu, Result.andThen_ok, Instr.sureAddr, Sem.run_pure, e1, r_sizeOf hs, if_neg hml, Addr.add_none], by rw [if_neg hml, Nat.add_assoc]; exact .slice _ _ hρ⟩
    case string =>
      cases hx <;> try (simp only [reduceCtorEq] at h; done)
      rename_i s
      cases hm with
      | some _ => simp only [reduceCtorEq] at h
      | none =>
        simp only at h
        cases hb : boundsV s.data.toList.length s.data.toList.length lo hi none with
        | none => simp only [hb, reduceCtorEq] at h
        | some q =>
          obtain ⟨l, h', m⟩ := q
          simp only [hb, Option.some.injEq] at h
          subst h
          have hsz : s.data.toList.length = s.size := by simp
          rw [hsz] at hb
          obtain ⟨m', e1, e2, e3, e4, e5⟩ := r_bounds (P := P) (isSlice := false) (cap := s.size) hb hl hh .none (fun _ => rfl) (Nat.le_refl _) w
          refine ⟨.string (s.extract l h'), by simp [Instr.sliceAt, r_underlying hu, Instr.slice, e1], ?_⟩
          have := VRel.str (ρ := ρ) (s.extract l h')
          simpa [ByteArray.data_extract, Array.toList_extract, List.extract_eq_take_drop] using this
    case slice e =>
      cases hx <;> try (simp only [reduceCtorEq] at h; done)
      case nilSlice len c =>
        cases hs : sizeV P e with
        | none => simp [hs] at h
        | some z =>
          simp only [hs] at h
          split at h
          · cases h
          · rename_i hno
            cases hb : boundsV len c lo hi mx with
            | none => simp [hb] at h
            | some q =>
              obtain ⟨l, h', m⟩ := q
              simp only [hb, Option.some.injEq] at h
              subst h
              obtain ⟨m', e1, e2, e3, e4, e5⟩ := r_bounds (P := P) (isSlice := true) (cap := c) hb hl hh hm (fun q => Decidable.byContradiction fun q2 => hno ⟨q, q2⟩) (Nat.le_refl _) w
              have em : m' = m := by rcases e5 with ⟨_, q1, q2⟩ | q <;> omega
              subst em
              refine ⟨.slice none (h' - l) (m' - l), by simp [Instr.sliceAt, r_underlying hu, Instr.slice, e1, r_sizeOf hs], ?_⟩
              have : (if m' = l then (none : Option (Nat × Nat)) else Option.map (fun (x : Nat × Nat) => match x with | (id, off) => (id, off + l * z)) none) = none := by split <;> rfl
              rw [this]
              exact .nilSlice _ _
      case slice id r b n off len c hρ =>
        cases hs : sizeV P e with
        | none => simp [hs] at h
        | some z =>
          simp only [hs] at h
          split at h
          · cases h
          · rename_i hno
            cases hb : boundsV len c lo hi mx with
            | none => simp [hb] at h
            | some q =>
              obtain ⟨l, h', m⟩ := q
              simp only [hb, Option.some.injEq] at h
              subst h
              obtain ⟨m', e1, e2, e3, e4, e5⟩ := r_bounds (P := P) (isSlice := true) (cap := c) hb hl hh hm (fun q => Decidable.byContradiction fun q2 => hno ⟨q, q2⟩) (Nat.le_refl _) w
              have em : m' = m := by rcases e5 with ⟨_, q1, q2⟩ | q <;> omega
              subst em
              by_cases hml : m' = l
              · exact ⟨.slice (some ⟨r, b + off, none⟩) (h' - l) (m' - l), by simp only [Instr.sliceAt, Sem.run_bind, r_underlying hu, Result.andThen_ok, Instr.slice, Sem.run_pure, e1, r_sizeOf hs, if_pos hml], by rw [if_pos hml]; exact .slice _ _ hρ⟩
              · exact ⟨.slice (some ⟨r, b + off + l * z, none⟩) (h' - l) (m' - l), by simp only [Instr.sliceAt, Sem.run_bind, r_underlying hu, Result.andThen_ok, Instr.slice, Sem.run_pure, e1, r_sizeOf hs, if_neg hml, map_add], by rw [if_neg hml, Option.map_some, Nat.add_assoc]; exact .slice _ _ hρ⟩
      case rest id r b n off len c z' hρ hc hlc =>
        cases hs : sizeV P e with
        | none => simp [hs] at h
        | some z =>
          simp only [hs] at h
          by_cases hz : z' = z
          · subst hz
            simp only [if_true] at h
            cases hm with
            | none =>
              simp only at h
              cases hb : boundsV len len lo hi none with
              | none => simp [hb] at h
              | some q =>
                obtain ⟨l, h', m⟩ := q
                simp only [hb, Option.some.injEq] at h
                subst h
                obtain ⟨m', e1, e2, e3, e4, e5⟩ := r_bounds (P := P) (isSlice := true) (cap := c) hb hl hh .none (fun _ => rfl) hlc w
                have hm' : m' = c := by
                  rcases e5 with ⟨_, q1, q2⟩ | q
                  · exact q1
                  · subst q
                    -- the model's own maximum is the capacity
                    unfold boundsV at hb
                    simp only [optBoundV] at hb
                    have : (Instr.sliceBounds true len c _ _ none).run P w = .ok (l, h', m') w := e1
                    simp only [Instr.sliceBounds, Sem.run_bind, Sem.run_pure, Result.andThen_ok] at this
                    revert this
                    cases hh <;> cases hl <;> simp only [Sem.run_bind, Sem.run_pure, Result.andThen_ok, Option.isSome_none, Bool.false_eq_true, if_false]
                    · intro q; simp at q; omega
                    · intro q
                      cases hq : (Instr.sliceBound _ len .sliceB).run P w with
                      | ok a w2 => rw [hq] at q; simp at q; omega
                      | halt a w2 => rw [hq] at q; simp at q
                    · intro q
                      cases hq : (Instr.sliceBound _ c (if true = true then .sliceAcap else .sliceAlen)).run P w with
                      | ok a w2 => simp only [if_true] at hq q; rw [hq] at q; simp at q; omega
                      | halt a w2 => simp only [if_true] at hq q; rw [hq] at q; simp at q
                    · intro q
                      cases hq : (Instr.sliceBound _ c (if true = true then .sliceAcap else .sliceAlen)).run P w with
                      | ok a w2 =>
                        simp only [if_true] at hq q; rw [hq] at q; simp only [Result.andThen_ok] at q
                        cases hq2 : (Instr.sliceBound _ a .sliceB).run P w2 with
                        | ok a w3 => rw [hq2] at q; simp at q; omega
                        | halt a w3 => rw [hq2] at q; simp at q
                      | halt a w2 => simp only [if_true] at hq q; rw [hq] at q; simp at q
                subst hm'
                have e3' := e3 (Nat.le_refl _)
                by_cases hml : m' = l
                · have h0 : h' - l = 0 := by omega
                  refine ⟨.slice (some ⟨r, b + off, none⟩) (h' - l) (m' - l), by simp only [Instr.sliceAt, Sem.run_bind, r_underlying hu, Result.andThen_ok, Instr.slice, Sem.run_pure, e1, r_sizeOf hs, if_pos hml], ?_⟩
                  rw [h0, show m' - l = 0 by omega]
                  exact .restEnd _ _ hρ
                · refine ⟨.slice (some ⟨r, b + off + l * z', none⟩) (h' - l) (m' - l), by simp only [Instr.sliceAt, Sem.run_bind, r_underlying hu, Result.andThen_ok, Instr.slice, Sem.run_pure, e1, r_sizeOf hs, if_neg hml, map_add], ?_⟩
                  rw [Nat.add_assoc]
                  refine .rest _ _ _ hρ ?_ (by omega)
                  have : off + l * z' + (m' - l) * z' = off + m' * z' := by
                    rw [Nat.add_assoc, ← Nat.add_mul, show l + (m' - l) = m' by omega]
                  omega
            | some hmv =>
              simp only at h
              split at h
              · cases h
              · rename_i hno
                split at h
                · rename_i l h' m hb
                  obtain ⟨m', e1, e2, e3, e4, e5⟩ := r_bounds (P := P) (isSlice := true) (cap := c) hb hl hh (.some hmv) (fun q => absurd q hno) hlc w
                  have em : m' = m := e5.elim (fun q => nomatch q.1) (fun q => q)
                  subst em
                  have hhm : h' ≤ m' := boundsV_le hb hno
                  by_cases hml : m' = l
                  · simp only [hml, if_true, Option.some.injEq] at h
                    subst h
                    subst hml
                    refine ⟨.slice (some ⟨r, b + off, none⟩) (h' - m') (m' - m'), by simp only [Instr.sliceAt, Sem.run_bind, r_underlying hu, Result.andThen_ok, Instr.slice, Sem.run_pure, e1, r_sizeOf hs, if_true], ?_⟩
                    rw [show h' - m' = 0 by omega, Nat.sub_self]
                    exact .sliceEnd _ hρ
                  · simp only [hml, if_false, Option.some.injEq] at h
                    subst h
                    exact ⟨.slice (some ⟨r, b + off + l * z', none⟩) (h' - l) (m' - l), by simp only [Instr.sliceAt, Sem.run_bind, r_underlying hu, Result.andThen_ok, Instr.slice, Sem.run_pure, e1, r_sizeOf hs, if_neg hml, map_add], by rw [Nat.add_assoc]; exact .slice _ _ hρ⟩
                · cases h
          · simp [hz] at h
      case restEnd id r b n off off' z' hρ =>
        cases hs : sizeV P e with
        | none => simp [hs] at h
        | some z =>
          simp only [hs] at h
          by_cases hz : z' = z
          · subst hz
            simp only [if_true] at h
            cases hm with
            | none =>
              simp only at h
              cases hb : boundsV 0 0 lo hi none with
              | none => simp [hb] at h
              | some q =>
                obtain ⟨l, h', m⟩ := q
                simp only [hb, Option.some.injEq] at h
                subst h
                obtain ⟨m', e1, e2, e3, e4, e5⟩ := r_bounds (P := P) (isSlice := true) (cap := 0) hb hl hh .none (fun _ => rfl) (Nat.le_refl _) w
                have e3' := e3 (Nat.le_refl _)
                have em : m' = 0 := by rcases e5 with ⟨_, q1, q2⟩ | q <;> omega
                subst em
                have hl0 : l = 0 := by omega
                have hh0 : h' = 0 := by omega
                subst hl0
                subst hh0
                refine ⟨.slice (some ⟨r, off', none⟩) 0 0, by simp [Instr.sliceAt, r_underlying hu, Instr.slice, e1, r_sizeOf hs], ?_⟩
                exact .restEnd _ _ hρ
            | some hmv =>
              simp only at h
              split at h
              · cases h
              · rename_i hno
                split at h
                · rename_i l h' m hb
                  obtain ⟨m', e1, e2, e3, e4, e5⟩ := r_bounds (P := P) (isSlice := true) (cap := 0) hb hl hh (.some hmv) (fun q => absurd q hno) (Nat.le_refl _) w
                  have em : m' = m := e5.elim (fun q => nomatch q.1) (fun q => q)
                  subst em
                  have hhm : h' ≤ m' := boundsV_le hb hno
                  have hm0 : m' = 0 := by omega
                  have hh0 : h' = 0 := by omega
                  have hl0 : l = 0 := by omega
                  subst hm0
                  subst hh0
                  subst hl0
                  simp only [if_true, Option.some.injEq] at h
                  subst h
                  exact ⟨.slice (some ⟨r, off', none⟩) 0 0, by simp [Instr.sliceAt, r_underlying hu, Instr.slice, e1, r_sizeOf hs], .sliceEnd _ hρ⟩
                · cases h
          · simp [hz] at h
      case sliceEnd id r b n off off' hρ =>
        cases hs : sizeV P e with
        | none => simp [hs] at h
        | some z =>
          simp only [hs] at h
          split at h
          · cases h
          · rename_i hno
            cases hb : boundsV 0 0 lo hi mx with
            | none => simp [hb] at h
            | some q =>
              obtain ⟨l, h', m⟩ := q
              simp only [hb, Option.some.injEq] at h
              subst h
              obtain ⟨m', e1, e2, e3, e4, e5⟩ := r_bounds (P := P) (isSlice := true) (cap := 0) hb hl hh hm (fun q => Decidable.byContradiction fun q2 => hno ⟨q, q2⟩) (Nat.le_refl _) w
              have em : m' = m := by rcases e5 with ⟨_, q1, q2⟩ | q <;> omega
              subst em
              have e3' := e3 (Nat.le_refl _)
              have hm0 : m' = 0 := by omega
              have hh0 : h' = 0 := by omega
              have hl0 : l = 0 := by omega
              subst hm0
              subst hh0
              subst hl0
              exact ⟨.slice (some ⟨r, off', none⟩) 0 0, by simp [Instr.sliceAt, r_underlying hu, Instr.slice, e1, r_sizeOf hs], by simp only [if_true]; exact .sliceEnd _ hρ⟩

end Go.Vm
