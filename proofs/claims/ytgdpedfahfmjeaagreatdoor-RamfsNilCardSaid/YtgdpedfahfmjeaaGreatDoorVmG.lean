/-
  A virtual semantics of the model's code (7): what the model's parts come to: types, cells, rows.
-/
import Derived.Test.YtgdpedfahfmjeaaGreatDoorVmF
namespace Go.Vm
variable {P : Program} {G : Nat} {ρ : Ren} {S : St} {w : World}

theorem r_underlying {t : TypeId} {d : TypeDesc} (h : P.underlying t = some d) (w : World) : (underlying t).run P w = .ok d w := by
  simp [underlying, h]
theorem r_typeInfo {t : TypeId} {i : TypeInfo} (h : P.info? t = some i) (w : World) : (typeInfo t).run P w = .ok i w := by
  simp [typeInfo, h]
theorem sizeV_info {t : TypeId} {n : Nat} (h : sizeV P t = some n) : ∃ i, P.info? t = some i ∧ i.size = n := by
  unfold sizeV at h
  cases hi : P.info? t with
  | none => simp [hi] at h
  | some i => exact ⟨i, rfl, by simpa [hi] using h⟩
theorem r_sizeOf {t : TypeId} {n : Nat} (h : sizeV P t = some n) (w : World) : (sizeOf t).run P w = .ok n w := by
  obtain ⟨i, hi, hn⟩ := sizeV_info h
  simp [sizeOf, r_typeInfo hi, hn]
theorem zeroV_info {t : TypeId} {z : VV} (h : zeroV P t = some z) : ∃ i z', P.info? t = some i ∧ i.zero = some z' ∧ z = VV.ofValue z' := by
  unfold zeroV at h
  cases hi : P.info? t with
  | none => simp [hi] at h
  | some i =>
    cases hz : i.zero with
    | none => simp [hi, hz] at h
    | some z' => exact ⟨i, z', rfl, hz, by simpa [hi, hz] using h.symm⟩
theorem r_zeroValue {t : TypeId} {z : VV} (h : zeroV P t = some z) : ∃ z', (∀ w, (zeroValue t).run P w = .ok z' w) ∧ z = VV.ofValue z' := by
  obtain ⟨i, z', hi, hz, e⟩ := zeroV_info h
  exact ⟨z', fun w => by simp [zeroValue, r_typeInfo hi, hz], e⟩
theorem isAggV_und {t : TypeId} {b : Bool} (h : isAggV P t = some b) : ∃ d, P.underlying t = some d ∧ b = (match d with | .struct _ | .array _ _ => true | _ => false) := by
  unfold isAggV at h
  cases hd : P.underlying t with
  | none => simp [hd] at h
  | some d => exact ⟨d, rfl, by cases d <;> simp_all⟩
theorem r_isAgg {t : TypeId} {b : Bool} (h : isAggV P t = some b) (w : World) : (isAgg t).run P w = .ok b w := by
  obtain ⟨d, hd, hb⟩ := isAggV_und h
  subst hb
  simp only [isAgg, Sem.run_bind, r_underlying hd, Result.andThen_ok]
  cases d <;> rfl
theorem bytesV_info {t : TypeId} {n : Nat} (h : bytesV P t = some n) : ∃ i, P.info? t = some i ∧ i.bytes = n := by
  unfold bytesV at h
  cases hi : P.info? t with
  | none => simp [hi] at h
  | some i => exact ⟨i, rfl, by simpa [hi] using h⟩

theorem r_part {t : TypeId} {cs : List VV} {cs' : Array Value} {off : Nat} {v : VV} (h : partV P t cs off = some v) (hc : VRels ρ cs cs'.toList) (w : World) :
    ∃ v', (part t cs' off).run P w = .ok v' w ∧ VRel ρ v v' := by
  unfold partV at h
  cases ha : isAggV P t with
  | none => simp [ha] at h
  | some b =>
    cases b with
    | true =>
      cases hn : sizeV P t with
      | none => simp [ha, hn] at h
      | some n =>
        simp only [ha, hn, Option.some.injEq] at h
        subst h
        refine ⟨.agg (cs'.extract off (off + n)), by simp [part, r_isAgg ha, r_sizeOf hn], .agg ?_⟩
        have := (hc.drop off).take n
        simpa [Array.toList_extract, List.extract_eq_take_drop] using this
    | false =>
      simp only [ha] at h
      obtain ⟨v', hv, hr⟩ := hc.get h
      refine ⟨v', ?_, hr⟩
      have : cs'[off]? = some v' := by simpa using hv
      simp [part, r_isAgg ha, this]

/- rows -/
theorem Sim.row (hS : Sim G ρ S w) {id m : Nat} {c : Tr VV} {t : TypeId} {ro mk : Bool} (h : S.h.get id = some (.cells c m t ro mk)) :
    ∃ r b n cs t' fr, ρ id = some (r, b, n) ∧ w.heap[r]? = some (.cells cs t' fr) ∧ cs.size = b + n ∧ m ≤ n ∧ (∀ i v, c.get i = some v → i < m) ∧
      (∀ i v, c.get i = some v → ∃ v', cs[b + i]? = some v' ∧ VRel ρ v v') ∧ (ro = false → fr.1 = fr.2 ∨ fr = (b + n, b + n + 1)) ∧ (mk = false → fr.1 = fr.2) := by
  obtain ⟨r, b, n, o', h1, h2, h3⟩ := hS.obj id _ h
  cases h3 with
  | cells a1 a2 a3 a4 a5 a6 => exact ⟨r, b, n, _, _, _, h1, h2, a1, a2, a3, a4, a5, a6⟩

theorem cell?_of {w : World} {r off : Nat} {cs : Array Value} {t : TypeId} {fr : Nat × Nat} (h : w.heap[r]? = some (.cells cs t fr)) : w.cell? ⟨r, off, none⟩ = cs[off]? := by
  simp [World.cell?, h]

theorem Addr.add_none (r o n : Nat) : (⟨r, o, none⟩ : Addr).add n = ⟨r, o + n, none⟩ := by
  unfold Addr.add
  split
  · rename_i h; subst h; rfl
  · rfl

theorem r_loadCellsFrom {w : World} {r o : Nat} {cs : Array Value} {t : TypeId} {fr : Nat × Nat} (h : w.heap[r]? = some (.cells cs t fr)) : ∀ (k i : Nat) (acc : Array Value) (l : List Value), l.length = k →
    (∀ j, j < k → cs[o + i + j]? = l[j]?) → (loadCellsFrom ⟨r, o, none⟩ i k acc).run P w = .ok (acc ++ l.toArray) w := by
  intro k
  induction k with
  | zero =>
    intro i acc l hl _
    rw [List.length_eq_zero_iff.1 hl]
    simp [loadCellsFrom]
  | succ k ih =>
    intro i acc l hl hg
    cases l with
    | nil => simp at hl
    | cons v l =>
      have h0 := hg 0 (by omega)
      simp only [Nat.add_zero, List.getElem?_cons_zero] at h0
      simp only [loadCellsFrom, Addr.add_none, Sem.run_bind, run_load, cell?_of h, h0, Result.andThen_ok]
      rw [ih (i + 1) (acc.push v) l (by simpa using hl) (fun j hj => by
        have := hg (j + 1) (by omega)
        rw [show o + (i + 1) + j = o + i + (j + 1) by omega, this]; simp)]
      congr 1
      apply Array.toList_inj.1
      simp

theorem r_loadCells {id off k : Nat} {l : List VV} (hS : Sim G ρ S w) (h : loadV S id off k = some l) : ∃ r b n, ρ id = some (r, b, n) ∧
    ∃ l' : List Value, VRels ρ l l' ∧ ∀ a : Addr, a = ⟨r, b + off, none⟩ → (loadCells a k).run P w = .ok l'.toArray w := by
  unfold loadV at h
  cases ho : S.h.get id with
  | none => simp [ho] at h
  | some o =>
    cases o with
    | cells c m t ro mk =>
      simp only [ho] at h
      obtain ⟨r, b, n, cs, t', fr, h1, h2, h3, h4, h5, h6, _, _⟩ := hS.row ho
      refine ⟨r, b, n, h1, ?_⟩
      obtain ⟨hl, hg⟩ := (Tr.row_spec c k off l).1 h
      have hlt : ∀ j, j < k → (cs[b + off + j]?).isSome := by
        intro j hj
        have e := hg j hj
        have : j < l.length := by omega
        rw [List.getElem?_eq_getElem this] at e
        obtain ⟨v', hv', _⟩ := h6 _ _ e
        rw [show b + off + j = b + (off + j) by omega, hv']; rfl
      refine ⟨(List.range k).map fun j => (cs[b + off + j]?).getD default, ?_, ?_⟩
      · refine VRels.of_get (by simp [hl]) fun j v v' hv hv' => ?_
        have hj : j < k := by
          have : j < l.length := by
            rcases Nat.lt_or_ge j l.length with x | x
            · exact x
            · rw [List.getElem?_eq_none x] at hv; cases hv
          omega
        have e := hg j hj
        rw [hv] at e
        obtain ⟨u, hu, hr⟩ := h6 _ _ e
        rw [List.getElem?_map, List.getElem?_range hj] at hv'
        simp only [Option.map_some, Option.some.injEq] at hv'
        rw [← hv', show b + off + j = b + (off + j) by omega, hu]
        exact hr
      · rintro a rfl
        have := r_loadCellsFrom (P := P) (o := b + off) h2 k 0 #[] ((List.range k).map fun j => (cs[b + off + j]?).getD default) (by simp) (fun j hj => by
          rw [List.getElem?_map, List.getElem?_range hj]
          obtain ⟨x, hx⟩ := Option.isSome_iff_exists.1 (hlt j hj)
          simp [hx])
        simpa [loadCells] using this
    | _ => simp [ho] at h

theorem r_loadVar {t : TypeId} {id off : Nat} {v : VV} (hS : Sim G ρ S w) (h : loadVarV P S t id off = some v) : ∃ r b n, ρ id = some (r, b, n) ∧
    ∃ v', VRel ρ v v' ∧ (loadVar t ⟨r, b + off, none⟩).run P w = .ok v' w := by
  unfold loadVarV at h
  cases ha : isAggV P t with
  | none => simp [ha] at h
  | some b =>
    cases b with
    | true =>
      cases hn : sizeV P t with
      | none => simp [ha, hn] at h
      | some n =>
        simp only [ha, hn] at h
        cases hl : loadV S id off n with
        | none => simp [hl] at h
        | some l =>
          simp only [hl, Option.some.injEq] at h
          subst h
          obtain ⟨r, b, m, h1, l', hr, hrun⟩ := r_loadCells (P := P) hS hl
          exact ⟨r, b, m, h1, _, .agg (cs' := l'.toArray) (by simpa using hr), by simp [loadVar, r_isAgg ha, r_sizeOf hn, hrun _ rfl]⟩
    | false =>
      simp only [ha] at h
      cases hl : loadV S id off 1 with
      | none => simp [hl] at h
      | some l =>
        simp only [hl] at h
        match l, h with
        | [u], h =>
          simp only [Option.some.injEq] at h
          subst h
          obtain ⟨r, b, m, h1, l', hr, hrun⟩ := r_loadCells (P := P) hS hl
          cases hr with
          | cons hv ht =>
            cases ht with
            | nil =>
              refine ⟨r, b, m, h1, _, hv, ?_⟩
              have := hrun _ rfl
              simp only [loadCells, loadCellsFrom, Addr.add_none, Nat.add_zero, Sem.run_bind] at this
              simp only [loadVar, Sem.run_bind, r_isAgg ha, Result.andThen_ok, Bool.false_eq_true, if_false]
              cases hx : (load ⟨r, b + off, none⟩).run P w with
              | ok x w' =>
                rw [hx] at this
                simp only [Result.andThen_ok, Sem.run_pure, Result.ok.injEq] at this
                obtain ⟨e1, rfl⟩ := this
                have e2 := congrArg Array.toList e1
                simp only [List.push_toArray, List.nil_append, List.cons.injEq, and_true] at e2
                rw [e2]
              | halt x w' => rw [hx] at this; simp at this

/- stores -/
def putRow (cs : Array Value) (i : Nat) : List Value → Array Value
  | [] => cs
  | v :: l => putRow (cs.setIfInBounds i v) (i + 1) l

theorem putRow_get : ∀ (l : List Value) (cs : Array Value) (i : Nat), i + l.length ≤ cs.size → ∀ j : Nat, (putRow cs i l)[j]? = if i ≤ j ∧ j < i + l.length then l[j - i]? else cs[j]? := by
  intro l
  induction l with
  | nil => intro cs i _ j; simp only [putRow, List.length_nil]; rw [if_neg (by omega)]
  | cons v l ih =>
    intro cs i hi j
    simp only [List.length_cons] at hi
    simp only [putRow]
    rw [ih _ _ (by simp; omega)]
    simp only [List.length_cons]
    by_cases h : i = j
    · subst h
      rw [if_neg (by omega), if_pos (by omega), getElem?_setIfInBounds, if_pos ⟨rfl, by omega⟩]
      simp
    · by_cases h2 : i + 1 ≤ j ∧ j < i + 1 + l.length
      · rw [if_pos h2, if_pos (by omega), show j - i = (j - (i + 1)) + 1 by omega]
        simp
      · rw [if_neg h2, if_neg (by omega), getElem?_setIfInBounds, if_neg (by omega)]

theorem putRow_size : ∀ (l : List Value) (cs : Array Value) (i : Nat), (putRow cs i l).size = cs.size := by
  intro l
  induction l with
  | nil => intro cs i; rfl
  | cons v l ih => intro cs i; simp [putRow, ih]

theorem put_same {w : World} {r : Nat} {o : Obj} (h : w.heap[r]? = some o) : World.put w r o = w := by
  have : w.heap.setIfInBounds r o = w.heap := by
    apply Array.ext_getElem?
    intro j
    rw [getElem?_setIfInBounds]
    by_cases e : r = j ∧ r < w.heap.size
    · rw [if_pos e, ← e.1, h]
    · rw [if_neg e]
  simp [World.put, this]

theorem setCell_put {w : World} {r off : Nat} {cs : Array Value} {t : TypeId} {fr : Nat × Nat} (h : w.heap[r]? = some (.cells cs t fr)) (v : Value) :
    w.setCell ⟨r, off, none⟩ v = World.put w r (.cells (cs.setIfInBounds off v) t fr) := by
  have hr : r < w.heap.size := by
    rcases Nat.lt_or_ge r w.heap.size with x | x
    · exact x
    · rw [Array.getElem?_eq_none x] at h; cases h
  have hh : (w.setCell ⟨r, off, none⟩ v).heap = w.heap.setIfInBounds r (.cells (cs.setIfInBounds off v) t fr) := by
    apply Array.ext_getElem?
    intro j
    rw [getElem?_setIfInBounds]
    simp only [World.setCell]
    rw [Array.getElem?_modify]
    by_cases e : r = j
    · subst e
      rw [h]
      simp [hr]
    · simp [e]
  have e1 : w.setCell ⟨r, off, none⟩ v = { w with heap := (w.setCell ⟨r, off, none⟩ v).heap } := rfl
  rw [e1, hh]
  rfl

theorem put_put (w : World) (r : Nat) (a b : Obj) : World.put (World.put w r a) r b = World.put w r b := by
  have : (w.heap.setIfInBounds r a).setIfInBounds r b = w.heap.setIfInBounds r b := by
    apply Array.ext_getElem?
    intro j
    rw [getElem?_setIfInBounds, getElem?_setIfInBounds, getElem?_setIfInBounds, Array.size_setIfInBounds]
    by_cases e : r = j ∧ r < w.heap.size
    · rw [if_pos e, if_pos e]
    · rw [if_neg e, if_neg e, if_neg e]
  simp [World.put, this]

theorem r_storeCells {o : Nat} : ∀ (vs : List Value) (i : Nat) (w : World) (r : Nat) (cs : Array Value) (t : TypeId) (fr : Nat × Nat), w.heap[r]? = some (.cells cs t fr) → o + i + vs.length ≤ cs.size →
    (∀ j, j < cs.size → ¬ (fr.1 ≤ j ∧ j < fr.2)) → (∀ v ∈ vs, v.oneCell' = true) →
    (storeCells ⟨r, o, none⟩ vs i).run P w = .ok () (World.put w r (.cells (putRow cs (o + i) vs) t fr)) := by
  intro vs
  induction vs with
  | nil =>
    intro i w r cs t fr h _ _ _
    simp [storeCells, putRow, put_same h]
  | cons v vs ih =>
    intro i w r cs t fr h hl hf ho
    simp only [List.length_cons] at hl
    have hr : r < w.heap.size := by
      rcases Nat.lt_or_ge r w.heap.size with x | x
      · exact x
      · rw [Array.getElem?_eq_none x] at h; cases h
    have hc : w.cell? ⟨r, o + i, none⟩ = some cs[o + i] := by rw [cell?_of h]; exact Array.getElem?_eq_getElem (by omega)
    have hz : w.frozen? ⟨r, o + i, none⟩ = false := by
      have := hf (o + i) (by omega)
      simp only [World.frozen?, h]
      simpa using this
    have hs : (store ⟨r, o + i, none⟩ v).run P w = .ok () (w.setCell ⟨r, o + i, none⟩ v) := by
      rw [run_store P w _ _ _ (ho v (by simp))]
      simp only [hc]
      rw [hz]
      rfl
    simp only [storeCells, Addr.add_none, Sem.run_bind, hs, Result.andThen_ok, setCell_put h]
    rw [ih (i + 1) _ r (cs.setIfInBounds (o + i) v) t fr (by rw [put_heap _ _ _ _ hr]; simp) (by simp; omega) (by simpa using hf) (fun u hu => ho u (by simp [hu]))]
    rw [put_put]
    rfl

theorem allOne_spec : ∀ {l : List VV}, allOne l = true → ∀ v ∈ l, v.one = true
  | [], _, _, h => by simp at h
  | u :: l, h, v, hv => by
    simp only [allOne] at h
    cases hu : u.one with
    | false => simp [hu] at h
    | true =>
      simp only [hu] at h
      rcases List.mem_cons.1 hv with rfl | hv
      · exact hu
      · exact allOne_spec h v hv

theorem VRel.one {v : VV} {v' : Value} (h : VRel ρ v v') (ho : v.one = true) : v'.oneCell' = true := by
  cases h <;> first | rfl | (simp [VV.one] at ho)

theorem VRels.one : ∀ {l : List VV} {l' : List Value}, VRels ρ l l' → (∀ v ∈ l, v.one = true) → ∀ v ∈ l', v.oneCell' = true
  | _, _, .nil, _, v, h => by simp at h
  | _, _, .cons h t, ho, v, hv => by
    rcases List.mem_cons.1 hv with rfl | hv
    · exact h.one (ho _ (by simp))
    · exact VRels.one t (fun u hu => ho u (by simp [hu])) v hv

theorem not_frozen {b n : Nat} {fr : Nat × Nat} (h : fr.1 = fr.2 ∨ fr = (b + n, b + n + 1)) : ∀ j, j < b + n → ¬ (fr.1 ≤ j ∧ j < fr.2) := by
  rintro j hj ⟨h1, h2⟩
  rcases h with h | h
  · omega
  · subst h; simp at h1; omega

theorem r_storeV {id off : Nat} {vs : List VV} {vs' : List Value} {S' : St} (hS : Sim G ρ S w) (h : storeV S id off vs = some S') (hv : VRels ρ vs vs') {r b n : Nat} (hρ : ρ id = some (r, b, n)) :
    ∃ w', (storeCells ⟨r, b + off, none⟩ vs').run P w = .ok () w' ∧ Goes G ρ S w ρ S' w' := by
  cases vs with
  | nil =>
    simp only [storeV, Option.some.injEq] at h
    subst h
    cases hv
    exact ⟨w, rfl, .refl hS⟩
  | cons v vs =>
    simp only [storeV] at h
    cases ho : allOne (v :: vs) with
    | false => simp [ho] at h
    | true =>
      simp only [ho] at h
      cases hg : S.h.get id with
      | none => simp [hg] at h
      | some obj =>
        cases obj with
        | cells c m t ro mk =>
          cases ro with
          | true => simp [hg] at h
          | false =>
            simp only [hg, Tr.with_eq] at h
            cases hb : Nat.ble (off + (v :: vs).length) m with
            | false => rw [hb] at h; cases h
            | true =>
              simp only [hb, Option.some.injEq] at h
              subst h
              have hb' : off + (v :: vs).length ≤ m := Nat.le_of_ble_eq_true hb
              obtain ⟨r', b', n', cs, t', fr, h1, h2, h3, h4, h5, h6, h7, h8⟩ := hS.row hg
              rw [hρ] at h1
              cases h1
              have hlen := hv.length
              refine ⟨_, r_storeCells vs' 0 w r cs t' fr h2 (by omega) (by rw [h3]; exact not_frozen (h7 rfl)) (hv.one (allOne_spec ho)), ?_⟩
              refine Goes.update hS hg rfl hρ ?_
              refine .cells (by rw [putRow_size]; exact h3) h4 ?_ ?_ h7 h8
              · intro i u hu
                rw [Tr.get_setAll] at hu
                split at hu
                · omega
                · exact h5 i u hu
              · intro i u hu
                rw [Tr.get_setAll] at hu
                rw [putRow_get _ _ _ (by omega)]
                by_cases hi : off ≤ i ∧ i < off + (v :: vs).length
                · rw [if_pos hi] at hu
                  rw [if_pos (by omega), show b + i - (b + off + 0) = i - off by omega]
                  exact hv.get hu
                · rw [if_neg hi] at hu
                  rw [if_neg (by omega)]
                  exact h6 i u hu
        | _ => simp [hg] at h

/-- a new row -/
theorem r_newRow {cs : List VV} {cs' : Array Value} {m : Nat} {t : TypeId} {mk : Bool} {r : Nat} {S' : St} (hS : Sim G ρ S w) (h : newRowV S cs m t mk = some (r, S')) (hc : VRels ρ cs cs'.toList) (hm : cs.length = m) :
    ∃ ρ', r = S.nx ∧ ρ' r = some (w.heap.size, 0, m) ∧ (newRow t cs').run P w = .ok ⟨w.heap.size, 0, none⟩ (World.add w (.cells cs' t)) ∧ Goes G ρ S w ρ' S' (World.add w (.cells cs' t)) := by
  unfold newRowV at h
  cases ho : allOne cs with
  | false => simp [ho] at h
  | true =>
    simp only [ho, Tr.with_eq, Option.some.injEq, Prod.mk.injEq] at h
    obtain ⟨rfl, rfl⟩ := h
    have hl := hc.length
    simp only [Array.length_toList] at hl
    refine ⟨ρ.add S.nx (w.heap.size, 0, m), rfl, by simp [Ren.add], rfl, Goes.alloc hS m _ _ fun ρ' hle => ?_⟩
    refine .cells (by omega) (Nat.le_refl _) ?_ ?_ (fun _ => .inl rfl) (fun _ => rfl)
    · intro i u hu
      rw [Tr.get_ofList] at hu
      rcases Nat.lt_or_ge i cs.length with x | x
      · omega
      · rw [List.getElem?_eq_none x] at hu; cases hu
    · intro i u hu
      rw [Tr.get_ofList] at hu
      obtain ⟨u', hu', hr⟩ := hc.get hu
      exact ⟨u', by simpa using hu', hr.mono hle⟩

end Go.Vm
