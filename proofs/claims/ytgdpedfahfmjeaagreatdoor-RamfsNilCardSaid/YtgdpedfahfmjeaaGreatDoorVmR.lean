/-
  A virtual semantics of the model's code (18): append, whole.
-/
import Derived.Test.YtgdpedfahfmjeaaGreatDoorVmQ
namespace Go.Vm
variable {P : Program} {G : Nat} {ρ : Ren} {S : St} {w : World}

theorem r_loadCellsH {id off k : Nat} {l : List VV} (hS : Sim G ρ S w) (h : loadV S id off k = some l) : ∃ r b n, ρ id = some (r, b, n) ∧
    ∃ l' : List Value, VRels ρ l l' ∧ ∀ w1 : World, w1.heap = w.heap → ∀ a : Addr, a = ⟨r, b + off, none⟩ → (loadCells a k).run P w1 = .ok l'.toArray w1 := by
  unfold loadV at h
  cases ho : S.h.get id with
  | none => simp [ho] at h
  | some o =>
    cases o with
    | cells c m t ro mk =>
      simp only [ho] at h
      obtain ⟨r, b, n, cs, t', fr, h1, h2, h3, h4, h5, h6, _, _⟩ := hS.row ho
      refine ⟨r, b, n, h1, ?_⟩
      obtain ⟨hl, hg⟩ := (Tr.row_spec c k off l).1 h
      have hlt : ∀ j, j < k → (cs[b + off + j]?).isSome := by
        intro j hj
        have e := hg j hj
        have : j < l.length := by omega
        rw [List.getElem?_eq_getElem this] at e
        obtain ⟨v', hv', _⟩ := h6 _ _ e
        rw [show b + off + j = b + (off + j) by omega, hv']; rfl
      refine ⟨(List.range k).map fun j => (cs[b + off + j]?).getD default, ?_, ?_⟩
      · refine VRels.of_get (by simp [hl]) fun j v v' hv hv' => ?_
        have hj : j < k := by
          have : j < l.length := by
            rcases Nat.lt_or_ge j l.length with x | x
            · exact x
            · rw [List.getElem?_eq_none x] at hv; cases hv
          omega
        have e := hg j hj
        rw [hv] at e
        obtain ⟨u, hu, hr⟩ := h6 _ _ e
        rw [List.getElem?_map, List.getElem?_range hj] at hv'
        simp only [Option.map_some, Option.some.injEq] at hv'
        rw [← hv', show b + off + j = b + (off + j) by omega, hu]
        exact hr
      · rintro w1 hw1 a rfl
        have := r_loadCellsFrom (P := P) (w := w1) (o := b + off) (by rw [hw1]; exact h2) k 0 #[] ((List.range k).map fun j => (cs[b + off + j]?).getD default) (by simp) (fun j hj => by
          rw [List.getElem?_map, List.getElem?_range hj]
          obtain ⟨x, hx⟩ := Option.isSome_iff_exists.1 (hlt j hj)
          simp [hx])
        simpa [loadCells] using this
    | _ => simp [ho] at h

theorem r_firstH (hS : Sim G ρ S w) {x : VV} {x' : Value} {size n : Nat} {l : List VV} (h : firstV S size n x = some l) (hx : VRel ρ x x') (hn : ∀ m, lenOfV x = some m → n ≤ m) :
    ∃ l' : List Value, VRels ρ l l' ∧ (∀ w1 : World, w1.heap = w.heap → (Builtin.firstCells size n x').run P w1 = .ok l'.toArray w1) ∧ l.length = n * size := by
  cases hx <;> simp only [firstV, reduceCtorEq] at h
  case str s =>
    split at h
    · simp only [Option.some.injEq] at h
      subst h
      refine ⟨_, cellsOfBytes_rel _, ?_, ?_⟩
      · intro w1 _
        simp only [Builtin.firstCells, Sem.run_pure, Result.ok.injEq, and_true]
        apply Array.toList_inj.1
        simp [ByteArray.data_extract, Array.toList_extract, List.extract_eq_take_drop]
      · have := hn _ rfl
        simp only [Array.length_toList] at this
        have h2 : s.size = s.data.size := rfl
        simp [cellsOfBytes]
        omega
    · cases h
  case nilSlice m c =>
    split at h
    · rename_i h0
      simp only [Option.some.injEq] at h
      subst h
      exact ⟨[], .nil, fun _ _ => rfl, by simp [h0]⟩
    · cases h
  case slice id r b k off len c hρ =>
    cases hk : n * size with
    | zero =>
      simp only [hk, Option.some.injEq] at h
      subst h
      exact ⟨[], .nil, fun w1 _ => by simp only [Builtin.firstCells, hk]; rfl, rfl⟩
    | succ q =>
      simp only [hk] at h
      obtain ⟨r1, b1, n1, e1, l', e2, e3⟩ := r_loadCellsH (P := P) hS h
      rw [hρ] at e1
      cases e1
      exact ⟨l', e2, fun w1 hw1 => by simp only [Builtin.firstCells, hk]; exact e3 w1 hw1 _ rfl, loadV_length h⟩
  case rest id r b k off len c z hρ hc hl =>
    cases hk : n * size with
    | zero =>
      simp only [hk, Option.some.injEq] at h
      subst h
      exact ⟨[], .nil, fun w1 _ => by simp only [Builtin.firstCells, hk]; rfl, rfl⟩
    | succ q =>
      simp only [hk] at h
      obtain ⟨r1, b1, n1, e1, l', e2, e3⟩ := r_loadCellsH (P := P) hS h
      rw [hρ] at e1
      cases e1
      exact ⟨l', e2, fun w1 hw1 => by simp only [Builtin.firstCells, hk]; exact e3 w1 hw1 _ rfl, loadV_length h⟩
  case restEnd id r b k off off' z hρ =>
    have h0 : n = 0 := by have := hn 0 rfl; omega
    subst h0
    simp only [Nat.zero_mul, Option.some.injEq] at h
    subst h
    exact ⟨[], .nil, fun w1 _ => by simp only [Builtin.firstCells, Nat.zero_mul]; rfl, by simp⟩
  case sliceEnd id r b k off off' hρ =>
    have h0 : n = 0 := by have := hn 0 rfl; omega
    subst h0
    simp only [Nat.zero_mul, Option.some.injEq] at h
    subst h
    exact ⟨[], .nil, fun w1 _ => by simp only [Builtin.firstCells, Nat.zero_mul]; rfl, by simp⟩


theorem zeroCells_eq {z : Value} {size n : Nat} (hz : z.cells.size = size) : (Builtin.zeroCells z.cells n) = (Array.range (n * size)).map (z.cells[· % z.cells.size]!) := by
  simp only [Builtin.zeroCells, hz]

theorem r_appended (hS : Sim G ρ S w) {xt e : TypeId} {size m bytes : Nat} {x : VV} {x' : Value} {new : List VV} (h : appendedV P S xt e size x = some (new, m)) (hx : VRel ρ x x') (hz : zeroOk P e size = true) (hm : m * bytes ≤ 281474976710656) :
    ∃ (d : TypeDesc) (new' : List Value), P.underlying xt = some d ∧ CountM P w (isIntD d) x' bytes m ∧ VRels ρ new new' ∧ new.length = m * size ∧ ∀ w1 : World, w1.heap = w.heap → (appendedM (isIntD d) e size m x').run P w1 = .ok new'.toArray w1 := by
  unfold appendedV at h
  cases hu : P.underlying xt with
  | none => simp [hu] at h
  | some d =>
    by_cases hd : ∃ k, d = .int k
    · obtain ⟨k, rfl⟩ := hd
      simp only [hu] at h
      cases hx <;> try (simp only [reduceCtorEq] at h; done)
      rename_i k2 l
      simp only at h
      split at h
      · rename_i h0
        cases hr : zeroRowV P e ((IntKind.i64.wrap l).toNat * size) with
        | none => simp [hr] at h
        | some row =>
          simp only [hr, Option.some.injEq, Prod.mk.injEq] at h
          obtain ⟨rfl, rfl⟩ := h
          obtain ⟨z, rz, zs⟩ := zeroOk_run hz
          obtain ⟨hlen, row', hrr, hrun⟩ := r_zeroRow hr ρ
          refine ⟨_, row'.toList, rfl, ⟨k2, l, rfl, h0, ?_, rfl⟩, hrr, hlen, ?_⟩
          · have q1 : ((IntKind.i64.wrap l).toNat : Int) = IntKind.i64.wrap l := Int.toNat_of_nonneg h0
            have q2 : (((IntKind.i64.wrap l).toNat * bytes : Nat) : Int) = IntKind.i64.wrap l * bytes := by rw [Int.natCast_mul, q1]
            rw [← q2]
            omega
          · intro w1 _
            simp only [isIntD, appendedM, Bool.not_true, Bool.false_eq_true, if_false]
            rcases hrun with ⟨q0, rfl⟩ | ⟨q0, z', rz', q1⟩
            · rw [if_pos q0]; rfl
            · have : z' = z := by
                have e1 := rz' w
                rw [rz w] at e1
                simpa using e1.symm
              subst this
              rw [if_neg q0]
              simp only [Sem.run_bind, rz, Result.andThen_ok, Sem.run_pure, zeroCells_eq zs, q1]
      · cases h
    · have hi : isIntD d = false := by cases d <;> first | rfl | exact absurd ⟨_, rfl⟩ hd
      have h' : (match lenOfV x with
          | some m => match firstV S size m x with
            | some new => some (new, m)
            | none => none
          | none => none) = some (new, m) := by
        rw [← h, hu]
        cases d <;> first | rfl | exact absurd ⟨_, rfl⟩ hd
      cases hl : lenOfV x with
      | none => simp [hl] at h'
      | some q =>
        simp only [hl] at h'
        cases hf : firstV S size q x with
        | none => simp [hf] at h'
        | some row =>
          simp only [hf, Option.some.injEq, Prod.mk.injEq] at h'
          obtain ⟨rfl, rfl⟩ := h'
          obtain ⟨l', e1, e2, e3⟩ := r_firstH (P := P) hS hf hx (fun q2 hq2 => by rw [hl] at hq2; cases hq2; exact Nat.le_refl _)
          refine ⟨d, l', rfl, ?_, e1, e3, ?_⟩
          · rw [hi]; exact r_lenOf hl hx w
          · intro w1 hw1
            rw [hi]
            simp only [appendedM, Bool.not_false, if_true]
            exact e2 w1 hw1

theorem zeroCells_size (z : Array Value) (n : Nat) : (Builtin.zeroCells z n).size = n * z.size := by simp [Builtin.zeroCells]

/-- a new row, with more cells behind what is known -/
theorem r_newRowMore {cs : List VV} {cs' more : Array Value} {m : Nat} {t : TypeId} {mk : Bool} {r : Nat} {S' : St} (hS : Sim G ρ S w) (h : newRowV S cs m t mk = some (r, S')) (hc : VRels ρ cs cs'.toList) (hm : cs.length = m) :
    ∃ ρ', r = S.nx ∧ ρ' r = some (w.heap.size, 0, m + more.size) ∧ (newRow t (cs' ++ more)).run P w = .ok ⟨w.heap.size, 0, none⟩ (World.add w (.cells (cs' ++ more) t)) ∧ Goes G ρ S w ρ' S' (World.add w (.cells (cs' ++ more) t)) := by
  unfold newRowV at h
  cases ho : allOne cs with
  | false => simp [ho] at h
  | true =>
    simp only [ho, Tr.with_eq, Option.some.injEq, Prod.mk.injEq] at h
    obtain ⟨rfl, rfl⟩ := h
    have hl := hc.length
    simp only [Array.length_toList] at hl
    refine ⟨ρ.add S.nx (w.heap.size, 0, m + more.size), rfl, by simp [Ren.add], rfl, Goes.alloc hS _ _ _ fun ρ' hle => ?_⟩
    refine .cells (by simp; omega) (by omega) ?_ ?_ (fun _ => .inl rfl) (fun _ => rfl)
    · intro i u hu
      rw [Tr.get_ofList] at hu
      rcases Nat.lt_or_ge i cs.length with x | x
      · omega
      · rw [List.getElem?_eq_none x] at hu; cases hu
    · intro i u hu
      rw [Tr.get_ofList] at hu
      have hi : i < cs.length := by
        rcases Nat.lt_or_ge i cs.length with x | x
        · exact x
        · rw [List.getElem?_eq_none x] at hu; cases hu
      obtain ⟨u', hu', hr⟩ := hc.get hu
      refine ⟨u', ?_, hr.mono hle⟩
      rw [Nat.zero_add, Array.getElem?_append_left (by omega)]
      simpa using hu'

theorem le_of_mul {a b c : Nat} (h : (a + 1) * (c + 1) ≤ b * (c + 1)) : a + 1 ≤ b := Nat.le_of_mul_le_mul_right h (Nat.succ_pos c)

set_option maxHeartbeats 4000000 in
theorem r_appendTo (hS : Sim G ρ S w) {t xt e : TypeId} {size n m : Nat} {base : Option (Nat × Nat)} {cap : Cap} {new : List VV} {u : VV} {S' : St} {s' x' : Value} (ty : TypeId)
    (h : appendTo S e (size + 1) base n cap new m = some (u, S')) (hs' : VRel ρ (.slice base n cap) s')
    (hu : P.underlying t = some (.slice e)) (hs : sizeV P e = some (size + 1)) {i : TypeInfo} (hi : P.info? e = some i)
    {zv : Value} (hzv : ∀ w, (zeroValue e).run P w = .ok zv w) (hzs : zv.cells.size = size + 1) (hroom : roomV (n + m) i.bytes = true)
    {d : TypeDesc} {new' : List Value} (hx : P.underlying xt = some d) (hc : CountM P w (isIntD d) x' i.bytes m) (hn : VRels ρ new new') (hnl : new.length = m * (size + 1))
    (ha : ∀ w1 : World, w1.heap = w.heap → (appendedM (isIntD d) e (size + 1) m x').run P w1 = .ok new'.toArray w1) :
    ∃ ρ' u' w', (Builtin.append_ #[t, xt] ty #[s', x']).run P w = .ok u' w' ∧ VRel ρ' u u' ∧ Goes G ρ S w ρ' S' w' := by
  have hnl' : new'.length = m * (size + 1) := by rw [hn.length, hnl]
  have ha0 := ha w rfl
  -- growing: the old cells are known, the new row is made
  have grow : ∀ {ρ1 : Ren} {S1 S2 : St} {old : List VV} {old' : List Value} {base' : Option Addr} {cap' r : Nat} {mk : Bool}, Goes G ρ S w ρ1 S1 w → ¬ n + m ≤ cap' → VRels ρ1 old old' → old.length = n * (size + 1) → VRels ρ1 new new' →
      (∀ w1 : World, w1.heap = w.heap → (Builtin.firstCells (size + 1) n (.slice base' n cap')).run P w1 = .ok old'.toArray w1) →
      newRowV S1 (old ++ new) (old ++ new).length e mk = some (r, S2) →
      ∃ ρ' u' w', (Builtin.append_ #[t, xt] ty #[.slice base' n cap', x']).run P w = .ok u' w' ∧ VRel ρ' (.slice (some (r, 0)) (n + m) (.rest (size + 1))) u' ∧ Goes G ρ S w ρ' S2 w' := by
    intro ρ1 S1 S2 old old' base' cap' r mk hgo hgt hold hol hn1 hrun hrow
    obtain ⟨nc, w1, h1, h2, h3, h4, h5⟩ := append_grow (P := P) (w := w) (z := isIntD d) (bytes := i.bytes) ty (base := base') (n := n) (cap := cap') (x := x') hu hx hs hi rfl rfl hc hzv hgt hroom hrun ha
    have hg1 := hgo.trans (Goes.same hgo.sim h2 h3 h4)
    obtain ⟨ρ', rfl, e2, e3, e4⟩ := r_newRowMore (P := P) (more := Builtin.zeroCells zv.cells (nc - (n + m))) (cs' := old'.toArray ++ new'.toArray) hg1.sim hrow (by simpa using hold.append hn1) rfl
    refine ⟨ρ', .slice (some ⟨w1.heap.size, 0, none⟩) (n + m) nc, _, ?_, ?_, hg1.trans e4⟩
    · rw [h5, e3]; rfl
    · refine .rest (b := 0) (n := _) (n + m) nc (size + 1) e2 ?_ h1
      rw [zeroCells_size, hzs, List.length_append, hol, hnl, ← Nat.add_mul, Nat.zero_add, ← Nat.add_mul, Nat.add_sub_cancel' h1]
  unfold appendTo at h
  split at h
  · -- a nil slice
    cases hs'
    split at h
    · simp only [Option.some.injEq, Prod.mk.injEq] at h
      obtain ⟨rfl, rfl⟩ := h
      refine ⟨ρ, .slice none 0 0, w, ?_, .nilSlice 0 0, .refl hS⟩
      exact append_in (P := P) ty hu hx hs hi rfl rfl hc ha0 (by omega) rfl
    · rename_i m
      split at h
      · rename_i r S2 hrow
        simp only [Option.some.injEq, Prod.mk.injEq] at h
        obtain ⟨rfl, rfl⟩ := h
        have := grow (base' := none) (cap' := 0) (old := []) (old' := []) (Goes.refl hS) (by omega) .nil (by simp) hn (fun w1 _ => by simp [Builtin.firstCells]) hrow
        simpa using this
      · cases h
    · cases h
  · -- its capacity is known
    rename_i id off c
    have fin : ∀ {b : Nat} {r : Nat} {n1 : Nat}, ρ id = some (r, b, n1) → s' = .slice (some ⟨r, b + off, none⟩) n c → ∃ ρ' u' w', (Builtin.append_ #[t, xt] ty #[s', x']).run P w = .ok u' w' ∧ VRel ρ' u u' ∧ Goes G ρ S w ρ' S' w' := by
      rintro b r n1 hρ rfl
      split at h
      · rename_i hle
        cases hst : storeV S id (off + n * (size + 1)) new with
        | none => simp [hst] at h
        | some S1 =>
          simp only [hst, Option.some.injEq, Prod.mk.injEq] at h
          obtain ⟨rfl, rfl⟩ := h
          obtain ⟨w', f1, f2⟩ := r_storeV (P := P) hS hst hn hρ
          refine ⟨ρ, .slice (some ⟨r, b + off, none⟩) (n + m) c, w', ?_, .slice _ _ hρ, f2⟩
          exact append_in (P := P) ty hu hx hs hi rfl rfl hc ha0 hle (by simpa [Addr.add_none, Nat.add_assoc] using f1)
      · rename_i hgt
        cases hf : firstV S (size + 1) n (.slice (some (id, off)) n (.just c)) with
        | none => simp [hf] at h
        | some old =>
          simp only [hf] at h
          obtain ⟨old', e1, e2, e3⟩ := r_firstH (P := P) hS hf (.slice n c hρ) (fun q hq => by simp only [lenOfV, Option.some.injEq] at hq; omega)
          split at h
          · rename_i r' S2 hrow
            simp only [Option.some.injEq, Prod.mk.injEq] at h
            obtain ⟨rfl, rfl⟩ := h
            exact grow (Goes.refl hS) hgt e1 e3 hn e2 hrow
          · cases h
    cases hs' with
    | slice _ _ hρ => exact fin hρ rfl
    | sliceEnd off' hρ =>
      rename_i r b n1
      split at h
      · rename_i hle
        have hm0 : m = 0 := by omega
        subst hm0
        have hnew : new = [] := List.length_eq_zero_iff.1 (by omega)
        subst hnew
        cases hn
        simp only [storeV, Option.some.injEq, Prod.mk.injEq] at h
        obtain ⟨rfl, rfl⟩ := h
        refine ⟨ρ, .slice (some ⟨r, off', none⟩) 0 0, w, ?_, .sliceEnd _ hρ, .refl hS⟩
        exact append_in (P := P) ty hu hx hs hi rfl rfl hc ha0 (by omega) rfl
      · rename_i hgt
        simp only [firstV, Nat.zero_mul] at h
        split at h
        · rename_i r' S2 hrow
          simp only [Option.some.injEq, Prod.mk.injEq] at h
          obtain ⟨rfl, rfl⟩ := h
          have := grow (base' := some ⟨r, off', none⟩) (cap' := 0) (old := []) (old' := []) (Goes.refl hS) (by omega) .nil (by simp) hn (fun w1 _ => by simp [Builtin.firstCells, loadCells, loadCellsFrom]) hrow
          simpa using this
        · cases h
  · -- its capacity is not known
    rename_i id off z
    split at h
    · rename_i hz
      subst hz
      cases m with
      | zero =>
        simp only [Option.some.injEq, Prod.mk.injEq] at h
        obtain ⟨rfl, rfl⟩ := h
        have hnew : new = [] := List.length_eq_zero_iff.1 (by omega)
        subst hnew
        cases hn
        cases hs' with
        | rest _ c _ hρ hcc hl => exact ⟨ρ, _, w, append_in (P := P) ty hu hx hs hi rfl rfl hc ha0 (by omega) rfl, .rest _ _ _ hρ hcc hl, .refl hS⟩
        | restEnd off' _ hρ => exact ⟨ρ, _, w, append_in (P := P) ty hu hx hs hi rfl rfl hc ha0 (by omega) rfl, .restEnd _ _ hρ, .refl hS⟩
      | succ m =>
        simp only at h
        split at h
        · rename_i c k ct mk ho
          split at h
          · rename_i hin
            obtain ⟨hin1, hin2⟩ := hin
            cases hst : storeV S id (off + n * (size + 1)) new with
            | none => simp [hst] at h
            | some S1 =>
              simp only [hst, Option.some.injEq, Prod.mk.injEq] at h
              obtain ⟨rfl, rfl⟩ := h
              cases hs' with
              | restEnd off' _ hρ => exact absurd rfl hin2
              | rest _ c' _ hρ hcc hl =>
                rename_i r b n1
                obtain ⟨w', f1, f2⟩ := r_storeV (P := P) hS hst hn hρ
                obtain ⟨cs, t', fr, g1, g2, g3, g4⟩ := hS.cellsAt ho hρ
                have hle : n + (m + 1) ≤ c' := by
                  refine Nat.le_of_mul_le_mul_right (c := size + 1) ?_ (Nat.succ_pos _)
                  omega
                exact ⟨ρ, .slice (some ⟨r, b + off, none⟩) (n + (m + 1)) c', w', append_in (P := P) ty hu hx hs hi rfl rfl hc ha0 hle (by simpa [Addr.add_none, Nat.add_assoc] using f1), .rest _ _ _ hρ hcc hle, f2⟩
          · rename_i hin
            cases hrow0 : c.row off (n * (size + 1)) with
            | none => simp [hrow0] at h
            | some old =>
              simp only [hrow0] at h
              split at h
              · rename_i r' S2 hrow
                simp only [Option.some.injEq, Prod.mk.injEq] at h
                obtain ⟨rfl, rfl⟩ := h
                have hload : loadV S id off (n * (size + 1)) = some old := by simp [loadV, ho, hrow0]
                obtain ⟨r1, b1, n1, hρ1, old', e1, e2⟩ := r_loadCellsH (P := P) hS hload
                have hol := loadV_length hload
                cases hs' with
                | restEnd off' _ hρ =>
                  rename_i r b nn
                  simp only [Nat.zero_mul] at hol
                  have : old = [] := List.length_eq_zero_iff.1 hol
                  subst this
                  cases e1
                  exact grow (base' := some ⟨r, off', none⟩) (cap' := 0) (Goes.drop hS id) (by omega) .nil (by simp) hn (fun w1 _ => by simp [Builtin.firstCells, loadCells, loadCellsFrom]) hrow
                | rest _ c' _ hρ hcc hl =>
                  rename_i r b nn
                  rw [hρ] at hρ1
                  simp only [Option.some.injEq, Prod.mk.injEq] at hρ1
                  obtain ⟨rfl, rfl, rfl⟩ := hρ1
                  by_cases hle : n + (m + 1) ≤ c'
                  · -- in place
                    obtain ⟨r2, b2, n2, cs, t', fr, k1, k2, k3, k4, k5, k6, k7, k8⟩ := hS.row ho
                    rw [hρ] at k1
                    simp only [Option.some.injEq, Prod.mk.injEq] at k1
                    obtain ⟨rfl, rfl, rfl⟩ := k1
                    have hmul : (n + (m + 1)) * (size + 1) ≤ c' * (size + 1) := Nat.mul_le_mul_right _ hle
                    have hadd : (n + (m + 1)) * (size + 1) = n * (size + 1) + (m + 1) * (size + 1) := Nat.add_mul _ _ _
                    unfold newRowV at hrow
                    cases hone : allOne (old ++ new) with
                    | false => simp [hone] at hrow
                    | true =>
                      simp only [hone, Tr.with_eq, Option.some.injEq, Prod.mk.injEq] at hrow
                      obtain ⟨rfl, rfl⟩ := hrow
                      have hone' := allOne_spec hone
                      have hst := r_storeCells (P := P) (o := b + off + n * (size + 1)) new' 0 w r cs t' fr k2 (by omega) (by rw [k3]; exact not_frozen (k7 rfl)) (hn.one fun v hv => hone' v (List.mem_append_right _ hv))
                      have hol' : old'.length = n * (size + 1) := by rw [e1.length, hol]
                      have hrun := e2 w rfl ⟨r, b + off, none⟩ rfl
                      have hcells := hn
                      refine ⟨_, .slice (some ⟨r, b + off, none⟩) (n + (m + 1)) c', _, append_in (P := P) ty hu hx hs hi rfl rfl hc ha0 hle (by simpa [Addr.add_none] using hst), ?_, Goes.become (b' := b + off) (n' := nn - off) (onew' := .cells (putRow cs (b + off + n * (size + 1) + 0) new') t' fr) hS ho rfl hρ ?_⟩
                      · exact .rest (b := b + off) (off := 0) _ _ _ (by simp [Ren.add]; rfl) (by omega) hle
                      · intro ρ' hle'
                        refine .cells (by rw [putRow_size]; omega) (by rw [List.length_append]; omega) ?_ ?_ (fun _ => by rcases k7 rfl with q | q; exact .inl q; exact .inr (by rw [q, show b + off + (nn - off) = b + nn by omega])) k8
                        · intro j v hj
                          rw [Tr.get_ofList] at hj
                          rcases Nat.lt_or_ge j (old ++ new).length with q | q
                          · exact q
                          · rw [List.getElem?_eq_none q] at hj; cases hj
                        · intro j v hj
                          rw [Tr.get_ofList] at hj
                          rw [putRow_get _ _ _ (by omega)]
                          by_cases hjn : j < n * (size + 1)
                          · rw [List.getElem?_append_left (by omega)] at hj
                            rw [if_neg (by omega)]
                            have hg := ((Tr.row_spec _ _ _ _).1 hrow0).2 j hjn
                            rw [hj] at hg
                            obtain ⟨v', q1, q2⟩ := k6 _ _ hg
                            exact ⟨v', by rw [Nat.add_assoc]; exact q1, q2.mono hle'⟩
                          · rw [List.getElem?_append_right (by omega)] at hj
                            obtain ⟨v', q1, q2⟩ := hn.get hj
                            have hlt : j - old.length < new'.length := by
                              rcases Nat.lt_or_ge (j - old.length) new'.length with q | q
                              · exact q
                              · rw [List.getElem?_eq_none q] at q1; cases q1
                            rw [if_pos (by omega)]
                            exact ⟨v', by rw [show b + off + j - (b + off + n * (size + 1) + 0) = j - old.length by omega]; exact q1, q2.mono hle'⟩
                  · exact grow (Goes.drop hS id) hle e1 hol hn (fun w1 hw1 => by simp only [Builtin.firstCells]; exact e2 w1 hw1 _ rfl) hrow
              · cases h
        · cases h
    · cases h
  · cases h

end Go.Vm
