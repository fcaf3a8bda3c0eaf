/-
  A virtual semantics of the model's code (15): memory made and written.
-/
import Derived.Test.YtgdpedfahfmjeaaGreatDoorVmN
import Derived.Test.YtgdpedfahfmjeaaGreatDoorVmK
namespace Go.Vm
variable {P : Program} {G : Nat} {ρ : Ren} {S : St} {w : World}

theorem entryOf_rel {stamp : Nat} {l : List (VV × VV × Nat)} {l' : List MapEntry} (he : ERels ρ l l') : ∀ {v : VV}, entryOf stamp l = some v → ∃ e, l'.find? (·.born == stamp) = some e ∧ VRel ρ v (.tuple #[e.key, e.val]) := by
  induction he with
  | nil => intro v h; simp [entryOf] at h
  | cons hk hv t ih =>
    rename_i k vv k' vv' b l l'
    intro v h
    simp only [entryOf] at h
    rw [List.find?_cons]
    cases hb : b == stamp with
    | true =>
      simp only [hb, if_true, Option.some.injEq] at h
      subst h
      exact ⟨_, rfl, .tuple (.cons hk (.cons hv .nil))⟩
    | false =>
      simp only [hb, Bool.false_eq_true, if_false] at h
      exact ih h

theorem r_entry (hS : Sim G ρ S w) {it v : VV} {it' : Value} (h : entryV S it = some v) (hi : VRel ρ it it') : ∃ v', (Instr.entry it').run P w = .ok v' w ∧ VRel ρ v v' := by
  unfold entryV at h
  split at h
  · rename_i r
    cases hi with
    | ptr hρ =>
      rename_i r' b n
      cases ho : S.h.get r with
      | none => simp [ho] at h
      | some o =>
        obtain ⟨q, bq, nq, o', h1, h2, h3⟩ := hS.obj r o ho
        rw [hρ] at h1
        cases h1
        cases h3 <;> simp only [ho, reduceCtorEq] at h
        rename_i m rm bm nm hb since stepped seen hm
        subst hb
        cases hl : seen.toList.getLast? with
        | none => simp [hl] at h
        | some stamp =>
          cases hom : S.h.get m with
          | none => simp [hl, hom] at h
          | some om =>
            cases om <;> simp only [hl, hom, reduceCtorEq] at h
            rename_i es clock
            split at h
            · rename_i hc
              subst hc
              obtain ⟨q, bq, nq, o'', k1, k2, k3⟩ := hS.obj m _ hom
              rw [hm] at k1
              cases k1
              cases k3 with
              | map he =>
                rename_i es'
                obtain ⟨e, e1, e2⟩ := entryOf_rel he h
                have hback : seen.back? = some stamp := by
                  rw [← hl]; simp [Array.back?, List.getLast?_eq_getElem?]
                have hfind : es'.find? (·.born == stamp) = some e := by
                  rw [← Array.find?_toList]; exact e1
                refine ⟨_, ?_, e2⟩
                simp only [Instr.entry, Sem.run_bind, Nat.add_zero, getObj_run h2 (by simp), getObj_run k2 (by simp), Result.andThen_ok, hback, bne_self_eq_false, Bool.false_eq_true, if_false, hfind, Sem.run_pure]
            · cases h
  · cases h

theorem r_typeAssert {x v : VV} {x' : Value} {xt t : TypeId} {ok : Bool} (h : typeAssertV P x t ok = some v) (hx : VRel ρ x x') (w : World) : ∃ v', (Instr.typeAssert x' xt t ok).run P w = .ok v' w ∧ VRel ρ v v' := by
  unfold typeAssertV at h
  -- the zero that a failing assertion answers
  have hz : ∀ {u : VV}, (if ok then (match zeroV P t with | some z => some (VV.tuple [z, .bool false]) | none => none) else none) = some u →
      ok = true ∧ ∃ z', (∀ w, (zeroValue t).run P w = .ok z' w) ∧ VRel ρ u (.tuple #[z', .bool false]) := by
    intro u hu
    cases ok with
    | false => simp at hu
    | true =>
      simp only [if_true] at hu
      cases hz : zeroV P t with
      | none => simp [hz] at hu
      | some z =>
        obtain ⟨z', rz, ez⟩ := r_zeroValue hz
        simp only [hz, Option.some.injEq] at hu
        subst hu
        exact ⟨rfl, z', rz, .tuple (.cons (by rw [ez]; exact ofValue_rel ρ z') (.cons (.bool _) .nil))⟩
  cases hu : P.underlying t with
  | none => simp [hu] at h
  | some d =>
    cases hx <;> try (cases d <;> simp only [hu, reduceCtorEq] at h; done)
    case nilIface =>
      cases d <;> simp only [hu] at h
      all_goals
        obtain ⟨rfl, z', rz, hr⟩ := hz h
        exact ⟨_, by simp [Instr.typeAssert, r_underlying hu, rz], hr⟩
    case iface t0 v0 v0' hv =>
      cases d
      case interface want =>
        simp only [hu] at h
        cases hi : P.info? t0 with
        | none => simp [hi] at h
        | some i =>
          simp only [hi] at h
          cases hm : Instr.missingMethod want i.methods with
          | none =>
            simp only [hm, Option.some.injEq] at h
            subst h
            exact ⟨if ok then .tuple #[.iface t0 v0', .bool true] else .iface t0 v0', by simp [Instr.typeAssert, r_underlying hu, r_typeInfo hi, hm], by cases ok <;> first | exact .iface _ hv | exact .tuple (.cons (.iface _ hv) (.cons (.bool _) .nil))⟩
          | some s =>
            simp only [hm] at h
            obtain ⟨rfl, z', rz, hr⟩ := hz h
            exact ⟨_, by simp [Instr.typeAssert, r_underlying hu, r_typeInfo hi, hm, rz], hr⟩
      all_goals
        simp only [hu] at h
        split at h
        · rename_i ht
          simp only [Option.some.injEq] at h
          subst h
          exact ⟨if ok then .tuple #[v0', .bool true] else v0', by simp [Instr.typeAssert, r_underlying hu, ht], by cases ok <;> first | exact hv | exact .tuple (.cons hv (.cons (.bool _) .nil))⟩
        · rename_i ht
          obtain ⟨rfl, z', rz, hr⟩ := hz h
          exact ⟨_, by simp [Instr.typeAssert, r_underlying hu, ht, rz], hr⟩

theorem r_box (hS : Sim G ρ S w) {t : TypeId} {v u : VV} {v' : Value} {S' : St} (h : boxV S t v = some (u, S')) (hv : VRel ρ v v') :
    ∃ ρ' u' w', (do pure (.pointer (some (← newVar t v'))) : Sem Value).run P w = .ok u' w' ∧ VRel ρ' u u' ∧ Goes G ρ S w ρ' S' w' := by
  unfold boxV at h
  cases hc : cellsV v with
  | none => simp [hc] at h
  | some cs =>
    simp only [hc] at h
    cases hn : newRowV S cs cs.length t false with
    | none => simp [hn] at h
    | some q =>
      obtain ⟨r, S1⟩ := q
      simp only [hn, Option.some.injEq, Prod.mk.injEq] at h
      obtain ⟨rfl, rfl⟩ := h
      obtain ⟨ρ', rfl, e2, e3, e4⟩ := r_newRow (P := P) hS hn (cellsV_rel hc hv) rfl
      exact ⟨ρ', _, _, by simp only [newVar, Sem.run_bind, e3, Result.andThen_ok, Sem.run_pure], .ptr (b := 0) (off := 0) e2, e4⟩

theorem r_alloc (hS : Sim G ρ S w) {t : TypeId} {u : VV} {S' : St} (h : allocV P S t = some (u, S')) :
    ∃ ρ' u' w', (Instr.alloc t true (.tuple #[])).run P w = .ok u' w' ∧ VRel ρ' u u' ∧ Goes G ρ S w ρ' S' w' := by
  unfold allocV at h
  cases hz : zeroV P t with
  | none => simp [hz] at h
  | some z =>
    obtain ⟨z', rz, ez⟩ := r_zeroValue hz
    simp only [hz] at h
    obtain ⟨ρ', u', w', e1, e2, e3⟩ := r_box (P := P) hS h (v' := z') (by rw [ez]; exact ofValue_rel ρ z')
    exact ⟨ρ', u', w', by simp only [Instr.alloc, Sem.run_bind, rz, Result.andThen_ok]; exact e1, e2, e3⟩

theorem zerosV_rel {z : List VV} {z' : Array Value} (hz : VRels ρ z z'.toList) (hne : z ≠ []) (n : Nat) : VRels ρ (zerosV z n) ((Array.range n).map (z'[· % z'.size]!)).toList := by
  have hl := hz.length
  simp only [Array.length_toList] at hl
  simp only [zerosV, Array.toList_map, Array.toList_range]
  refine VRels.map _ fun i _ => ?_
  have hpos : 0 < z.length := by cases z <;> simp_all
  have hi : i % z.length < z.length := Nat.mod_lt _ hpos
  rw [hl, List.getD_eq_getElem?_getD, List.getElem?_eq_getElem hi, Option.getD_some]
  obtain ⟨v', e1, e2⟩ := hz.get (List.getElem?_eq_getElem hi)
  have : z'[i % z.length]! = v' := by
    rw [Array.getElem?_toList] at e1
    rw [getElem!_def, e1]
  rw [this]
  exact e2

theorem r_zeroRow {e : TypeId} {n : Nat} {row : List VV} (h : zeroRowV P e n = some row) (ρ : Ren) : row.length = n ∧
    ∃ row' : Array Value, VRels ρ row row'.toList ∧ ((n = 0 ∧ row' = #[]) ∨ n ≠ 0 ∧ ∃ z : Value, (∀ w, (zeroValue e).run P w = .ok z w) ∧ (Array.range n).map (z.cells[· % z.cells.size]!) = row') := by
  cases n with
  | zero =>
    simp only [zeroRowV, Option.some.injEq] at h
    subst h
    exact ⟨rfl, #[], .nil, .inl ⟨rfl, rfl⟩⟩
  | succ n =>
    simp only [zeroRowV] at h
    cases hz : zeroV P e with
    | none => simp [hz] at h
    | some z =>
      obtain ⟨z', rz, ez⟩ := r_zeroValue hz
      simp only [hz] at h
      split at h
      · rename_i c cs hc
        simp only [Option.some.injEq] at h
        subst h
        have hzr : VRels ρ (c :: cs) z'.cells.toList := cellsV_rel hc (by rw [ez]; exact ofValue_rel ρ z')
        exact ⟨by simp [zerosV], _, zerosV_rel hzr (by simp) (n + 1), .inr ⟨Nat.succ_ne_zero n, z', rz, rfl⟩⟩
      · cases h

theorem r_buildSlice (hS : Sim G ρ S w) {t : TypeId} {len : Nat} {parts : List (Nat × VV)} {parts' : Array (Nat × Value)} {u : VV} {S' : St} (h : buildSliceV P S t len parts = some (u, S')) (hp : PRels ρ parts parts'.toList) :
    ∃ ρ' u' w', (Instr.buildSlice t len parts').run P w = .ok u' w' ∧ VRel ρ' u u' ∧ Goes G ρ S w ρ' S' w' := by
  unfold buildSliceV at h
  cases hu : P.underlying t with
  | none => simp [hu] at h
  | some d =>
    cases d <;> simp only [hu, reduceCtorEq] at h
    rename_i e
    cases hs : sizeV P e with
    | none => simp [hs] at h
    | some size =>
      simp only [hs] at h
      split at h
      · rename_i hle
        cases hz : zeroRowV P e (len * size) with
        | none => simp [hz] at h
        | some row =>
          obtain ⟨hrl, row', hrr, hrun⟩ := r_zeroRow hz ρ
          simp only [hz] at h
          cases hf : fillV (fun i => some (i * size, size)) row parts with
          | none => simp [hf] at h
          | some cs =>
            simp only [hf] at h
            obtain ⟨r', f1, f2⟩ := fillV_rel (place' := fun i => some (i * size, size)) (fun i => rfl) hf hp hrr
            cases hn : newRowV S cs (len * size) e false with
            | none => simp [hn] at h
            | some q =>
              obtain ⟨r, S1⟩ := q
              simp only [hn, Option.some.injEq, Prod.mk.injEq] at h
              obtain ⟨rfl, rfl⟩ := h
              have hlen : ∀ {pl : Nat → Option (Nat × Nat)} {ps : List (Nat × VV)} {c d : List VV}, fillV pl c ps = some d → d.length = c.length := by
                intro pl ps
                induction ps with
                | nil => intro c d hh; simp only [fillV, Option.some.injEq] at hh; rw [hh]
                | cons p ps ih =>
                  intro c d hh
                  obtain ⟨i, v⟩ := p
                  simp only [fillV] at hh
                  split at hh
                  · split at hh
                    · rename_i hq
                      rw [ih hh]
                      simp
                      omega
                    · cases hh
                  · cases hh
              obtain ⟨ρ', rfl, e2, e3, e4⟩ := r_newRow (P := P) hS hn f2 (by rw [hlen hf, hrl])
              refine ⟨ρ', _, _, ?_, .slice (b := 0) (off := 0) len len e2, e4⟩
              rcases hrun with ⟨h0, rfl⟩ | ⟨h0, z, rz, hz2⟩
              · have e5 : (Array.range (len * size)).map (fun i => (#[] : Array Value)[i % (#[] : Array Value).size]!) = #[] := by rw [h0]; simp
                simp only [Instr.buildSlice, Sem.run_bind, r_underlying hu, Result.andThen_ok, r_sizeOf hs, if_neg (show ¬ len * size > 2 ^ 24 by omega), if_pos h0, Sem.run_pure, e5, f1, e3, Nat.zero_add]
              · simp only [Instr.buildSlice, Sem.run_bind, r_underlying hu, Result.andThen_ok, r_sizeOf hs, if_neg (show ¬ len * size > 2 ^ 24 by omega), if_neg h0, rz, Sem.run_pure, hz2, f1, e3, Nat.zero_add]
      · cases h

theorem r_storeVar (hS : Sim G ρ S w) {t : TypeId} {a v u : VV} {a' v' : Value} {S' : St} (h : storeVarV P S t a v = some (u, S')) (ha : VRel ρ a a') (hv : VRel ρ v v') :
    u = undefV ∧ ∃ w', (Instr.storeAt t a' v').run P w = .ok () w' ∧ Goes G ρ S w ρ S' w' := by
  unfold storeVarV at h
  cases ha <;> try (simp only [reduceCtorEq] at h; done)
  rename_i id r b n off hρ
  cases hc : cellsV v with
  | none => simp [hc] at h
  | some cs =>
    cases hs : sizeV P t with
    | none => simp [hc, hs] at h
    | some z =>
      simp only [hc, hs] at h
      split at h
      · rename_i hl
        cases hst : storeV S id off cs with
        | none => simp [hst] at h
        | some S1 =>
          simp only [hst, Option.some.injEq, Prod.mk.injEq] at h
          obtain ⟨rfl, rfl⟩ := h
          have hr := cellsV_rel hc hv
          obtain ⟨w', e1, e2⟩ := r_storeV (P := P) hS hst hr hρ
          have hl' : v'.cells.size = z := by
            have := hr.length
            simp only [Array.length_toList] at this
            omega
          exact ⟨rfl, w', by simp [Instr.storeAt, Instr.sureAddr, storeVar, r_sizeOf hs, hl', e1], e2⟩
      · cases h

theorem r_makeMap (hS : Sim G ρ S w) {t : TypeId} {r : Option VV} {r' : Option Value} {u : VV} {S' : St} (h : makeMapV P S t r = some (u, S')) (hr : OptRel ρ r r') :
    ∃ ρ' u' w', (Instr.makeMap t r').run P w = .ok u' w' ∧ VRel ρ' u u' ∧ Goes G ρ S w ρ' S' w' := by
  have key : Goes G ρ S w (ρ.add S.nx (w.heap.size, 0, 0)) { h := S.h.set S.nx (.map [] 0), nx := S.nx + 1 } (World.add w (.map #[] 0)) := Goes.alloc hS 0 _ _ fun ρ' _ => .map .nil
  have hvr : VRel (ρ.add S.nx (w.heap.size, 0, 0)) (.map (some S.nx)) (.map (some w.heap.size)) := .map (b := 0) (n := 0) (by simp [Ren.add])
  unfold makeMapV at h
  cases hr with
  | none =>
    simp only [Tr.with_eq, Option.some.injEq, Prod.mk.injEq] at h
    obtain ⟨rfl, rfl⟩ := h
    exact ⟨_, _, _, rfl, hvr, key⟩
  | some hv =>
    cases hv <;> simp only [reduceCtorEq] at h
    cases hu : P.underlying t with
    | none => simp [hu] at h
    | some d =>
      cases d <;> simp only [hu, reduceCtorEq] at h
      simp only [Tr.with_eq, Option.some.injEq, Prod.mk.injEq] at h
      obtain ⟨rfl, rfl⟩ := h
      exact ⟨_, _, _, by simp only [Instr.makeMap, Sem.run_bind, r_underlying hu, Result.andThen_ok, asInt, asIntOf, Sem.run_pure, run_newObj]; rfl, hvr, key⟩

end Go.Vm
