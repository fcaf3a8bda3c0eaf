/-
  A virtual semantics of the model's code (16): slices made, appended to, copied; conversions.
-/
import Derived.Test.YtgdpedfahfmjeaaGreatDoorVmO
namespace Go.Vm
variable {P : Program} {G : Nat} {ρ : Ren} {S : St} {w : World}

theorem wrap_ofNat_nonneg {k : IntKind} {n : Int} (h : 0 ≤ k.wrap n) : ((k.wrap n).toNat : Int) = k.wrap n := Int.toNat_of_nonneg h

theorem r_makeSlice (hS : Sim G ρ S w) {t : TypeId} {l c u : VV} {l' c' : Value} {S' : St} (h : makeSliceV P S t l c = some (u, S')) (hl : VRel ρ l l') (hc : VRel ρ c c') :
    ∃ ρ' u' w', (Instr.makeSlice t l' c').run P w = .ok u' w' ∧ VRel ρ' u u' ∧ Goes G ρ S w ρ' S' w' := by
  unfold makeSliceV at h
  cases hu : P.underlying t with
  | none => simp [hu] at h
  | some d =>
    cases d <;> simp only [hu, reduceCtorEq] at h
    rename_i e
    cases hl <;> try (simp only [reduceCtorEq] at h; done)
    cases hc <;> try (simp only [reduceCtorEq] at h; done)
    rename_i k l0 k2 c0
    simp only at h
    cases hs : sizeV P e with
    | none => simp [hs] at h
    | some size =>
      cases hb : bytesV P e with
      | none => simp [hs, hb] at h
      | some bytes =>
        obtain ⟨i, hi, hib⟩ := bytesV_info hb
        simp only [hs, hb] at h
        split at h
        · rename_i hcond
          obtain ⟨h1, h2, h3⟩ := hcond
          cases hz : zeroRowV P e ((IntKind.i64.wrap c0).toNat * size) with
          | none => simp [hz] at h
          | some row =>
            obtain ⟨hrl, row', hrr, hrun⟩ := r_zeroRow hz ρ
            simp only [hz] at h
            cases hn : newRowV S row ((IntKind.i64.wrap c0).toNat * size) e false with
            | none => simp [hn] at h
            | some q =>
              obtain ⟨r, S1⟩ := q
              simp only [hn, Option.some.injEq, Prod.mk.injEq] at h
              obtain ⟨rfl, rfl⟩ := h
              obtain ⟨ρ', rfl, e2, e3, e4⟩ := r_newRow (P := P) hS hn hrr hrl
              refine ⟨ρ', _, _, ?_, .slice (b := 0) (off := 0) _ _ e2, e4⟩
              have hx : (((decide (IntKind.i64.wrap c0 < 0) || decide ((i.bytes : Int) * IntKind.i64.wrap c0 > 2 ^ 48)) || decide (IntKind.i64.wrap l0 < 0) || decide (IntKind.i64.wrap l0 > IntKind.i64.wrap c0))) = false := by
                have q1 : ¬ (IntKind.i64.wrap c0 < 0) := by omega
                have q3 : ¬ (IntKind.i64.wrap l0 < 0) := by omega
                have q4 : ¬ (IntKind.i64.wrap l0 > IntKind.i64.wrap c0) := by omega
                simp [q1, q3, q4]
                rw [hib]; exact h3
              rcases hrun with ⟨h0, rfl⟩ | ⟨h0, z, rz, hz2⟩
              · have e5 : (Array.range ((IntKind.i64.wrap c0).toNat * size)).map (fun i => (#[] : Array Value)[i % (#[] : Array Value).size]!) = #[] := by rw [h0]; simp
                simp only [Instr.makeSlice, Sem.run_bind, r_underlying hu, Result.andThen_ok, asInt, asIntOf, Sem.run_pure, r_typeInfo hi, hx, Bool.false_eq_true, if_false, run_askRoom, r_sizeOf hs, if_pos h0, e5, e3, Nat.zero_add]
              · simp only [Instr.makeSlice, Sem.run_bind, r_underlying hu, Result.andThen_ok, asInt, asIntOf, Sem.run_pure, r_typeInfo hi, hx, Bool.false_eq_true, if_false, run_askRoom, r_sizeOf hs, if_neg h0, rz, hz2, e3, Nat.zero_add]
        · cases h

/- what is appended -/
theorem r_lenOf {x : VV} {x' : Value} {n : Nat} (h : lenOfV x = some n) (hx : VRel ρ x x') (w : World) : (Builtin.lenOf x').run P w = .ok n w := by
  cases hx <;> simp only [lenOfV, Option.some.injEq, reduceCtorEq] at h <;> subst h <;> simp [Builtin.lenOf]

theorem cellsOfBytes_rel (s : List UInt8) : VRels ρ (cellsOfBytes s) (s.map fun b => Value.int .u8 b.toNat) := VRels.map s fun b _ => .int _ _

theorem loadV_length {id off k : Nat} {l : List VV} (h : loadV S id off k = some l) : l.length = k := by
  unfold loadV at h
  split at h
  · exact ((Tr.row_spec _ _ _ _).1 h).1
  · cases h

theorem r_first (hS : Sim G ρ S w) {x : VV} {x' : Value} {size n : Nat} {l : List VV} (h : firstV S size n x = some l) (hx : VRel ρ x x') (hn : ∀ m, lenOfV x = some m → n ≤ m) :
    ∃ l' : List Value, VRels ρ l l' ∧ (Builtin.firstCells size n x').run P w = .ok l'.toArray w ∧ l.length = n * size := by
  cases hx <;> simp only [firstV, reduceCtorEq] at h
  case str s =>
    split at h
    · simp only [Option.some.injEq] at h
      subst h
      refine ⟨_, cellsOfBytes_rel _, ?_, ?_⟩
      · simp only [Builtin.firstCells, Sem.run_pure, Result.ok.injEq, and_true]
        apply Array.toList_inj.1
        simp [ByteArray.data_extract, Array.toList_extract, List.extract_eq_take_drop]
      · have := hn _ rfl
        simp only [Array.length_toList] at this
        have h2 : s.size = s.data.size := rfl
        simp [cellsOfBytes]
        omega
    · cases h
  case nilSlice m c =>
    split at h
    · rename_i h0
      simp only [Option.some.injEq] at h
      subst h
      exact ⟨[], .nil, rfl, by simp [h0]⟩
    · cases h
  case slice id r b k off len c hρ =>
    cases hk : n * size with
    | zero =>
      simp only [hk, Option.some.injEq] at h
      subst h
      exact ⟨[], .nil, by simp only [Builtin.firstCells, hk]; rfl, rfl⟩
    | succ q =>
      simp only [hk] at h
      obtain ⟨r1, b1, n1, e1, l', e2, e3⟩ := r_loadCells (P := P) hS h
      rw [hρ] at e1
      cases e1
      exact ⟨l', e2, by simp only [Builtin.firstCells, hk]; exact e3 _ rfl, loadV_length h⟩
  case rest id r b k off len c z hρ hc hl =>
    cases hk : n * size with
    | zero =>
      simp only [hk, Option.some.injEq] at h
      subst h
      exact ⟨[], .nil, by simp only [Builtin.firstCells, hk]; rfl, rfl⟩
    | succ q =>
      simp only [hk] at h
      obtain ⟨r1, b1, n1, e1, l', e2, e3⟩ := r_loadCells (P := P) hS h
      rw [hρ] at e1
      cases e1
      exact ⟨l', e2, by simp only [Builtin.firstCells, hk]; exact e3 _ rfl, loadV_length h⟩
  case restEnd id r b k off off' z hρ =>
    have h0 : n = 0 := by have := hn 0 rfl; omega
    subst h0
    simp only [Nat.zero_mul, Option.some.injEq] at h
    subst h
    exact ⟨[], .nil, by simp only [Builtin.firstCells, Nat.zero_mul]; rfl, by simp⟩
  case sliceEnd id r b k off off' hρ =>
    have h0 : n = 0 := by have := hn 0 rfl; omega
    subst h0
    simp only [Nat.zero_mul, Option.some.injEq] at h
    subst h
    exact ⟨[], .nil, by simp only [Builtin.firstCells, Nat.zero_mul]; rfl, by simp⟩

theorem storeV_nil {id off : Nat} : storeV S id off [] = some S := rfl

theorem r_copy (hS : Sim G ρ S w) {ts : List TypeId} {args : List VV} {args' : Array Value} {u : VV} {S' : St} (ty : TypeId) (h : copyV P S ts args = some (u, S')) (ha : VRels ρ args args'.toList) :
    ∃ u' w', (Builtin.copy_ ts.toArray ty args').run P w = .ok u' w' ∧ VRel ρ u u' ∧ Goes G ρ S w ρ S' w' := by
  unfold copyV at h
  split at h
  · rename_i t ts0 base n cap x
    obtain ⟨args'⟩ := args'
    change VRels ρ _ args' at ha
    cases ha with
    | cons hd ht =>
      cases ht with
      | cons hx ht =>
        cases ht
        rename_i d' x'
        cases hu : P.underlying t with
        | none => simp [hu] at h
        | some d =>
          cases d <;> simp only [hu, reduceCtorEq] at h
          rename_i e
          cases hs : sizeV P e with
          | none => simp [hs] at h
          | some size =>
            cases hl : lenOfV x with
            | none => simp [hs, hl] at h
            | some m =>
              simp only [hs, hl] at h
              have hlen := r_lenOf (P := P) hl hx w
              cases hf : firstV S size (Nat.min m n) x with
              | none => simp [hf] at h
              | some new =>
                obtain ⟨l', e1, e2, e3⟩ := r_first (P := P) hS hf hx (fun q hq => by rw [hl] at hq; cases hq; exact Nat.min_le_left _ _)
                simp only [hf] at h
                -- the destination
                cases base with
                | none =>
                  simp only [Option.some.injEq, Prod.mk.injEq] at h
                  obtain ⟨rfl, rfl⟩ := h
                  cases hd
                  exact ⟨goInt (Nat.min m n), w, by simp [Builtin.copy_, r_underlying hu, hlen, r_sizeOf hs, e2], .int _ _, .refl hS⟩
                | some p =>
                  obtain ⟨id, off⟩ := p
                  simp only at h
                  cases hst : storeV S id off new with
                  | none => simp [hst] at h
                  | some S1 =>
                    simp only [hst, Option.some.injEq, Prod.mk.injEq] at h
                    obtain ⟨rfl, rfl⟩ := h
                    cases hd
                    case slice r b k c hρ =>
                      obtain ⟨w', f1, f2⟩ := r_storeV (P := P) hS hst e1 hρ
                      exact ⟨goInt (Nat.min m n), w', by simp [Builtin.copy_, r_underlying hu, hlen, r_sizeOf hs, e2, f1], .int _ _, f2⟩
                    case rest r b k c z hρ hc hl =>
                      obtain ⟨w', f1, f2⟩ := r_storeV (P := P) hS hst e1 hρ
                      exact ⟨goInt (Nat.min m n), w', by simp [Builtin.copy_, r_underlying hu, hlen, r_sizeOf hs, e2, f1], .int _ _, f2⟩
                    case restEnd r b k off' z hρ =>
                      have h0 : new = [] := List.length_eq_zero_iff.1 (by rw [e3]; simp [Nat.min])
                      subst h0
                      cases e1
                      simp only [storeV, Option.some.injEq] at hst
                      subst hst
                      have e2' : (Builtin.firstCells size 0 x').run P w = .ok #[] w := by simpa using e2
                      exact ⟨goInt (Nat.min m 0), w, by simp [Builtin.copy_, r_underlying hu, hlen, r_sizeOf hs, e2', storeCells], .int _ _, .refl hS⟩
                    case sliceEnd r b k off' hρ =>
                      have h0 : new = [] := List.length_eq_zero_iff.1 (by rw [e3]; simp [Nat.min])
                      subst h0
                      cases e1
                      simp only [storeV, Option.some.injEq] at hst
                      subst hst
                      have e2' : (Builtin.firstCells size 0 x').run P w = .ok #[] w := by simpa using e2
                      exact ⟨goInt (Nat.min m 0), w, by simp [Builtin.copy_, r_underlying hu, hlen, r_sizeOf hs, e2', storeCells], .int _ _, .refl hS⟩
  · cases h

end Go.Vm
