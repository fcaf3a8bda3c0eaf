/-
  What is proved here: run lemmas of the model's instructions (1). No condition.
-/
import Derived.Test.YtgdpedfahfmjeaaDoorMa
import Derived.Laws.Strings
import Derived.Laws.StructEq

/-
  A virtual semantics of the model's code (7): what the model's parts come to: types, cells, rows.
-/
namespace Go.Vm
variable {P : Program} {G : Nat} {ρ : Ren} {S : St} {w : World}

theorem r_underlying {t : TypeId} {d : TypeDesc} (h : P.underlying t = some d) (w : World) : (underlying t).run P w = .ok d w := by
  simp [underlying, h]
theorem r_typeInfo {t : TypeId} {i : TypeInfo} (h : P.info? t = some i) (w : World) : (typeInfo t).run P w = .ok i w := by
  simp [typeInfo, h]
theorem sizeV_info {t : TypeId} {n : Nat} (h : sizeV P t = some n) : ∃ i, P.info? t = some i ∧ i.size = n := by
  unfold sizeV at h
  cases hi : P.info? t with
  | none => simp [hi] at h
  | some i => exact ⟨i, rfl, by simpa [hi] using h⟩
theorem r_sizeOf {t : TypeId} {n : Nat} (h : sizeV P t = some n) (w : World) : (sizeOf t).run P w = .ok n w := by
  obtain ⟨i, hi, hn⟩ := sizeV_info h
  simp [sizeOf, r_typeInfo hi, hn]
theorem zeroV_info {t : TypeId} {z : VV} (h : zeroV P t = some z) : ∃ i z', P.info? t = some i ∧ i.zero = some z' ∧ z = VV.ofValue z' := by
  unfold zeroV at h
  cases hi : P.info? t with
  | none => simp [hi] at h
  | some i =>
    cases hz : i.zero with
    | none => simp [hi, hz] at h
    | some z' => exact ⟨i, z', rfl, hz, by simpa [hi, hz] using h.symm⟩
theorem r_zeroValue {t : TypeId} {z : VV} (h : zeroV P t = some z) : ∃ z', (∀ w, (zeroValue t).run P w = .ok z' w) ∧ z = VV.ofValue z' := by
  obtain ⟨i, z', hi, hz, e⟩ := zeroV_info h
  exact ⟨z', fun w => by simp [zeroValue, r_typeInfo hi, hz], e⟩
theorem isAggV_und {t : TypeId} {b : Bool} (h : isAggV P t = some b) : ∃ d, P.underlying t = some d ∧ b = (match d with | .struct _ | .array _ _ => true | _ => false) := by
  unfold isAggV at h
  cases hd : P.underlying t with
  | none => simp [hd] at h
  | some d => exact ⟨d, rfl, by cases d <;> simp_all⟩
theorem r_isAgg {t : TypeId} {b : Bool} (h : isAggV P t = some b) (w : World) : (isAgg t).run P w = .ok b w := by
  obtain ⟨d, hd, hb⟩ := isAggV_und h
  subst hb
  simp only [isAgg, Sem.run_bind, r_underlying hd, Result.andThen_ok]
  cases d <;> rfl
theorem bytesV_info {t : TypeId} {n : Nat} (h : bytesV P t = some n) : ∃ i, P.info? t = some i ∧ i.bytes = n := by
  unfold bytesV at h
  cases hi : P.info? t with
  | none => simp [hi] at h
  | some i => exact ⟨i, rfl, by simpa [hi] using h⟩

theorem r_part {t : TypeId} {cs : List VV} {cs' : Array Value} {off : Nat} {v : VV} (h : partV P t cs off = some v) (hc : VRels ρ cs cs'.toList) (w : World) :
    ∃ v', (part t cs' off).run P w = .ok v' w ∧ VRel ρ v v' := by
  unfold partV at h
  cases ha : isAggV P t with
  | none => simp [ha] at h
  | some b =>
    cases b with
    | true =>
      cases hn : sizeV P t with
      | none => simp [ha, hn] at h
      | some n =>
        simp only [ha, hn, Option.some.injEq] at h
        subst h
        refine ⟨.agg (cs'.extract off (off + n)), by simp [part, r_isAgg ha, r_sizeOf hn], .agg ?_⟩
        have := (hc.drop off).take n
        simpa [Array.toList_extract, List.extract_eq_take_drop] using this
    | false =>
      simp only [ha] at h
      obtain ⟨v', hv, hr⟩ := hc.get h
      refine ⟨v', ?_, hr⟩
      have : cs'[off]? = some v' := by simpa using hv
      simp [part, r_isAgg ha, this]

/- rows -/
theorem Sim.row (hS : Sim G ρ S w) {id m : Nat} {c : Tr VV} {t : TypeId} {ro mk : Bool} (h : S.h.get id = some (.cells c m t ro mk)) :
    ∃ r b n cs t' fr, ρ id = some (r, b, n) ∧ w.heap[r]? = some (.cells cs t' fr) ∧ cs.size = b + n ∧ m ≤ n ∧ (∀ i v, c.get i = some v → i < m) ∧
      (∀ i v, c.get i = some v → ∃ v', cs[b + i]? = some v' ∧ VRel ρ v v') ∧ (ro = false → fr.1 = fr.2 ∨ fr = (b + n, b + n + 1)) ∧ (mk = false → fr.1 = fr.2) := by
  obtain ⟨r, b, n, o', h1, h2, h3⟩ := hS.obj id _ h
  cases h3 with
  | cells a1 a2 a3 a4 a5 a6 => exact ⟨r, b, n, _, _, _, h1, h2, a1, a2, a3, a4, a5, a6⟩

theorem cell?_of {w : World} {r off : Nat} {cs : Array Value} {t : TypeId} {fr : Nat × Nat} (h : w.heap[r]? = some (.cells cs t fr)) : w.cell? ⟨r, off, none⟩ = cs[off]? := by
  simp [World.cell?, h]

theorem Addr.add_none (r o n : Nat) : (⟨r, o, none⟩ : Addr).add n = ⟨r, o + n, none⟩ := by
  unfold Addr.add
  split
  · rename_i h; subst h; rfl
  · rfl

theorem r_loadCellsFrom {w : World} {r o : Nat} {cs : Array Value} {t : TypeId} {fr : Nat × Nat} (h : w.heap[r]? = some (.cells cs t fr)) : ∀ (k i : Nat) (acc : Array Value) (l : List Value), l.length = k →
    (∀ j, j < k → cs[o + i + j]? = l[j]?) → (loadCellsFrom ⟨r, o, none⟩ i k acc).run P w = .ok (acc ++ l.toArray) w := by
  intro k
  induction k with
  | zero =>
    intro i acc l hl _
    rw [List.length_eq_zero_iff.1 hl]
    simp [loadCellsFrom]
  | succ k ih =>
    intro i acc l hl hg
    cases l with
    | nil => simp at hl
    | cons v l =>
      have h0 := hg 0 (by omega)
      simp only [Nat.add_zero, List.getElem?_cons_zero] at h0
      simp only [loadCellsFrom, Addr.add_none, Sem.run_bind, run_load, cell?_of h, h0, Result.andThen_ok]
      rw [ih (i + 1) (acc.push v) l (by simpa using hl) (fun j hj => by
        have := hg (j + 1) (by omega)
        rw [show o + (i + 1) + j = o + i + (j + 1) by omega, this]; simp)]
      congr 1
      apply Array.toList_inj.1
      simp

theorem r_loadCells {id off k : Nat} {l : List VV} (hS : Sim G ρ S w) (h : loadV S id off k = some l) : ∃ r b n, ρ id = some (r, b, n) ∧
    ∃ l' : List Value, VRels ρ l l' ∧ ∀ a : Addr, a = ⟨r, b + off, none⟩ → (loadCells a k).run P w = .ok l'.toArray w := by
  unfold loadV at h
  cases ho : S.h.get id with
  | none => simp [ho] at h
  | some o =>
    cases o with
    | cells c m t ro mk =>
      simp only [ho] at h
      obtain ⟨r, b, n, cs, t', fr, h1, h2, h3, h4, h5, h6, _, _⟩ := hS.row ho
      refine ⟨r, b, n, h1, ?_⟩
      obtain ⟨hl, hg⟩ := (Tr.row_spec c k off l).1 h
      have hlt : ∀ j, j < k → (cs[b + off + j]?).isSome := by
        intro j hj
        have e := hg j hj
        have : j < l.length := by omega
        rw [List.getElem?_eq_getElem this] at e
        obtain ⟨v', hv', _⟩ := h6 _ _ e
        rw [show b + off + j = b + (off + j) by omega, hv']; rfl
      refine ⟨(List.range k).map fun j => (cs[b + off + j]?).getD default, ?_, ?_⟩
      · refine VRels.of_get (by simp [hl]) fun j v v' hv hv' => ?_
        have hj : j < k := by
          have : j < l.length := by
            rcases Nat.lt_or_ge j l.length with x | x
            · exact x
            · rw [List.getElem?_eq_none x] at hv; cases hv
          omega
        have e := hg j hj
        rw [hv] at e
        obtain ⟨u, hu, hr⟩ := h6 _ _ e
        rw [List.getElem?_map, List.getElem?_range hj] at hv'
        simp only [Option.map_some, Option.some.injEq] at hv'
        rw [← hv', show b + off + j = b + (off + j) by omega, hu]
        exact hr
      · rintro a rfl
        have := r_loadCellsFrom (P := P) (o := b + off) h2 k 0 #[] ((List.range k).map fun j => (cs[b + off + j]?).getD default) (by simp) (fun j hj => by
          rw [List.getElem?_map, List.getElem?_range hj]
          obtain ⟨x, hx⟩ := Option.isSome_iff_exists.1 (hlt j hj)
          simp [hx])
        simpa [loadCells] using this
    | _ => simp [ho] at h

theorem r_loadVar {t : TypeId} {id off : Nat} {v : VV} (hS : Sim G ρ S w) (h : loadVarV P S t id off = some v) : ∃ r b n, ρ id = some (r, b, n) ∧
    ∃ v', VRel ρ v v' ∧ (loadVar t ⟨r, b + off, none⟩).run P w = .ok v' w := by
  unfold loadVarV at h
  cases ha : isAggV P t with
  | none => simp [ha] at h
  | some b =>
    cases b with
    | true =>
      cases hn : sizeV P t with
      | none => simp [ha, hn] at h
      | some n =>
        simp only [ha, hn] at h
        cases hl : loadV S id off n with
        | none => simp [hl] at h
        | some l =>
          simp only [hl, Option.some.injEq] at h
          subst h
          obtain ⟨r, b, m, h1, l', hr, hrun⟩ := r_loadCells (P := P) hS hl
          exact ⟨r, b, m, h1, _, .agg (cs' := l'.toArray) (by simpa using hr), by simp [loadVar, r_isAgg ha, r_sizeOf hn, hrun _ rfl]⟩
    | false =>
      simp only [ha] at h
      cases hl : loadV S id off 1 with
      | none => simp [hl] at h
      | some l =>
        simp only [hl] at h
        match l, h with
        | [u], h =>
          simp only [Option.some.injEq] at h
          subst h
          obtain ⟨r, b, m, h1, l', hr, hrun⟩ := r_loadCells (P := P) hS hl
          cases hr with
          | cons hv ht =>
            cases ht with
            | nil =>
              refine ⟨r, b, m, h1, _, hv, ?_⟩
              have := hrun _ rfl
              simp only [loadCells, loadCellsFrom, Addr.add_none, Nat.add_zero, Sem.run_bind] at this
              simp only [loadVar, Sem.run_bind, r_isAgg ha, Result.andThen_ok, Bool.false_eq_true, if_false]
              cases hx : (load ⟨r, b + off, none⟩).run P w with
              | ok x w' =>
                rw [hx] at this
                simp only [Result.andThen_ok, Sem.run_pure, Result.ok.injEq] at this
                obtain ⟨e1, rfl⟩ := this
                have e2 := congrArg Array.toList e1
                simp only [List.push_toArray, List.nil_append, List.cons.injEq, and_true] at e2
                rw [e2]
              | halt x w' => rw [hx] at this; simp at this

/- stores -/
def putRow (cs : Array Value) (i : Nat) : List Value → Array Value
  | [] => cs
  | v :: l => putRow (cs.setIfInBounds i v) (i + 1) l

theorem putRow_get : ∀ (l : List Value) (cs : Array Value) (i : Nat), i + l.length ≤ cs.size → ∀ j : Nat, (putRow cs i l)[j]? = if i ≤ j ∧ j < i + l.length then l[j - i]? else cs[j]? := by
  intro l
  induction l with
  | nil => intro cs i _ j; simp only [putRow, List.length_nil]; rw [if_neg (by omega)]
  | cons v l ih =>
    intro cs i hi j
    simp only [List.length_cons] at hi
    simp only [putRow]
    rw [ih _ _ (by simp; omega)]
    simp only [List.length_cons]
    by_cases h : i = j
    · subst h
      rw [if_neg (by omega), if_pos (by omega), getElem?_setIfInBounds, if_pos ⟨rfl, by omega⟩]
      simp
    · by_cases h2 : i + 1 ≤ j ∧ j < i + 1 + l.length
      · rw [if_pos h2, if_pos (by omega), show j - i = (j - (i + 1)) + 1 by omega]
        simp
      · rw [if_neg h2, if_neg (by omega), getElem?_setIfInBounds, if_neg (by omega)]

theorem putRow_size : ∀ (l : List Value) (cs : Array Value) (i : Nat), (putRow cs i l).size = cs.size := by
  intro l
  induction l with
  | nil => intro cs i; rfl
  | cons v l ih => intro cs i; simp [putRow, ih]

theorem put_same {w : World} {r : Nat} {o : Obj} (h : w.heap[r]? = some o) : World.put w r o = w := by
  have : w.heap.setIfInBounds r o = w.heap := by
    apply Array.ext_getElem?
    intro j
    rw [getElem?_setIfInBounds]
    by_cases e : r = j ∧ r < w.heap.size
    · rw [if_pos e, ← e.1, h]
    · rw [if_neg e]
  simp [World.put, this]

theorem setCell_put {w : World} {r off : Nat} {cs : Array Value} {t : TypeId} {fr : Nat × Nat} (h : w.heap[r]? = some (.cells cs t fr)) (v : Value) :
    w.setCell ⟨r, off, none⟩ v = World.put w r (.cells (cs.setIfInBounds off v) t fr) := by
  have hr : r < w.heap.size := by
    rcases Nat.lt_or_ge r w.heap.size with x | x
    · exact x
    · rw [Array.getElem?_eq_none x] at h; cases h
  have hh : (w.setCell ⟨r, off, none⟩ v).heap = w.heap.setIfInBounds r (.cells (cs.setIfInBounds off v) t fr) := by
    apply Array.ext_getElem?
    intro j
    rw [getElem?_setIfInBounds]
    simp only [World.setCell]
    rw [Array.getElem?_modify]
    by_cases e : r = j
    · subst e
      rw [h]
      simp [hr]
    · simp [e]
  have e1 : w.setCell ⟨r, off, none⟩ v = { w with heap := (w.setCell ⟨r, off, none⟩ v).heap } := rfl
  rw [e1, hh]
  rfl

theorem put_put (w : World) (r : Nat) (a b : Obj) : World.put (World.put w r a) r b = World.put w r b := by
  have : (w.heap.setIfInBounds r a).setIfInBounds r b = w.heap.setIfInBounds r b := by
    apply Array.ext_getElem?
    intro j
    rw [getElem?_setIfInBounds, getElem?_setIfInBounds, getElem?_setIfInBounds, Array.size_setIfInBounds]
    by_cases e : r = j ∧ r < w.heap.size
    · rw [if_pos e, if_pos e]
    · rw [if_neg e, if_neg e, if_neg e]
  simp [World.put, this]

theorem r_storeCells {o : Nat} : ∀ (vs : List Value) (i : Nat) (w : World) (r : Nat) (cs : Array Value) (t : TypeId) (fr : Nat × Nat), w.heap[r]? = some (.cells cs t fr) → o + i + vs.length ≤ cs.size →
    (∀ j, j < cs.size → ¬ (fr.1 ≤ j ∧ j < fr.2)) → (∀ v ∈ vs, v.oneCell' = true) →
    (storeCells ⟨r, o, none⟩ vs i).run P w = .ok () (World.put w r (.cells (putRow cs (o + i) vs) t fr)) := by
  intro vs
  induction vs with
  | nil =>
    intro i w r cs t fr h _ _ _
    simp [storeCells, putRow, put_same h]
  | cons v vs ih =>
    intro i w r cs t fr h hl hf ho
    simp only [List.length_cons] at hl
    have hr : r < w.heap.size := by
      rcases Nat.lt_or_ge r w.heap.size with x | x
      · exact x
      · rw [Array.getElem?_eq_none x] at h; cases h
    have hc : w.cell? ⟨r, o + i, none⟩ = some cs[o + i] := by rw [cell?_of h]; exact Array.getElem?_eq_getElem (by omega)
    have hz : w.frozen? ⟨r, o + i, none⟩ = false := by
      have := hf (o + i) (by omega)
      simp only [World.frozen?, h]
      simpa using this
    have hs : (store ⟨r, o + i, none⟩ v).run P w = .ok () (w.setCell ⟨r, o + i, none⟩ v) := by
      rw [run_store P w _ _ _ (ho v (by simp))]
      simp only [hc]
      rw [hz]
      rfl
    simp only [storeCells, Addr.add_none, Sem.run_bind, hs, Result.andThen_ok, setCell_put h]
    rw [ih (i + 1) _ r (cs.setIfInBounds (o + i) v) t fr (by rw [put_heap _ _ _ _ hr]; simp) (by simp; omega) (by simpa using hf) (fun u hu => ho u (by simp [hu]))]
    rw [put_put]
    rfl

theorem allOne_spec : ∀ {l : List VV}, allOne l = true → ∀ v ∈ l, v.one = true
  | [], _, _, h => by simp at h
  | u :: l, h, v, hv => by
    simp only [allOne] at h
    cases hu : u.one with
    | false => simp [hu] at h
    | true =>
      simp only [hu] at h
      rcases List.mem_cons.1 hv with rfl | hv
      · exact hu
      · exact allOne_spec h v hv

theorem VRel.one {v : VV} {v' : Value} (h : VRel ρ v v') (ho : v.one = true) : v'.oneCell' = true := by
  cases h <;> first | rfl | (simp [VV.one] at ho)

theorem VRels.one : ∀ {l : List VV} {l' : List Value}, VRels ρ l l' → (∀ v ∈ l, v.one = true) → ∀ v ∈ l', v.oneCell' = true
  | _, _, .nil, _, v, h => by simp at h
  | _, _, .cons h t, ho, v, hv => by
    rcases List.mem_cons.1 hv with rfl | hv
    · exact h.one (ho _ (by simp))
    · exact VRels.one t (fun u hu => ho u (by simp [hu])) v hv

theorem not_frozen {b n : Nat} {fr : Nat × Nat} (h : fr.1 = fr.2 ∨ fr = (b + n, b + n + 1)) : ∀ j, j < b + n → ¬ (fr.1 ≤ j ∧ j < fr.2) := by
  rintro j hj ⟨h1, h2⟩
  rcases h with h | h
  · omega
  · subst h; simp at h1; omega

theorem r_storeV {id off : Nat} {vs : List VV} {vs' : List Value} {S' : St} (hS : Sim G ρ S w) (h : storeV S id off vs = some S') (hv : VRels ρ vs vs') {r b n : Nat} (hρ : ρ id = some (r, b, n)) :
    ∃ w', (storeCells ⟨r, b + off, none⟩ vs').run P w = .ok () w' ∧ Goes G ρ S w ρ S' w' := by
  cases vs with
  | nil =>
    simp only [storeV, Option.some.injEq] at h
    subst h
    cases hv
    exact ⟨w, rfl, .refl hS⟩
  | cons v vs =>
    simp only [storeV] at h
    cases ho : allOne (v :: vs) with
    | false => simp [ho] at h
    | true =>
      simp only [ho] at h
      cases hg : S.h.get id with
      | none => simp [hg] at h
      | some obj =>
        cases obj with
        | cells c m t ro mk =>
          cases ro with
          | true => simp [hg] at h
          | false =>
            simp only [hg, Tr.with_eq] at h
            cases hb : Nat.ble (off + (v :: vs).length) m with
            | false => rw [hb] at h; cases h
            | true =>
              simp only [hb, Option.some.injEq] at h
              subst h
              have hb' : off + (v :: vs).length ≤ m := Nat.le_of_ble_eq_true hb
              obtain ⟨r', b', n', cs, t', fr, h1, h2, h3, h4, h5, h6, h7, h8⟩ := hS.row hg
              rw [hρ] at h1
              cases h1
              have hlen := hv.length
              refine ⟨_, r_storeCells vs' 0 w r cs t' fr h2 (by omega) (by rw [h3]; exact not_frozen (h7 rfl)) (hv.one (allOne_spec ho)), ?_⟩
              refine Goes.update hS hg rfl hρ ?_
              refine .cells (by rw [putRow_size]; exact h3) h4 ?_ ?_ h7 h8
              · intro i u hu
                rw [Tr.get_setAll] at hu
                split at hu
                · omega
                · exact h5 i u hu
              · intro i u hu
                rw [Tr.get_setAll] at hu
                rw [putRow_get _ _ _ (by omega)]
                by_cases hi : off ≤ i ∧ i < off + (v :: vs).length
                · rw [if_pos hi] at hu
                  rw [if_pos (by omega), show b + i - (b + off + 0) = i - off by omega]
                  exact hv.get hu
                · rw [if_neg hi] at hu
                  rw [if_neg (by omega)]
                  exact h6 i u hu
        | _ => simp [hg] at h

/-- a new row -/
theorem r_newRow {cs : List VV} {cs' : Array Value} {m : Nat} {t : TypeId} {mk : Bool} {r : Nat} {S' : St} (hS : Sim G ρ S w) (h : newRowV S cs m t mk = some (r, S')) (hc : VRels ρ cs cs'.toList) (hm : cs.length = m) :
    ∃ ρ', r = S.nx ∧ ρ' r = some (w.heap.size, 0, m) ∧ (newRow t cs').run P w = .ok ⟨w.heap.size, 0, none⟩ (World.add w (.cells cs' t)) ∧ Goes G ρ S w ρ' S' (World.add w (.cells cs' t)) := by
  unfold newRowV at h
  cases ho : allOne cs with
  | false => simp [ho] at h
  | true =>
    simp only [ho, Tr.with_eq, Option.some.injEq, Prod.mk.injEq] at h
    obtain ⟨rfl, rfl⟩ := h
    have hl := hc.length
    simp only [Array.length_toList] at hl
    refine ⟨ρ.add S.nx (w.heap.size, 0, m), rfl, by simp [Ren.add], rfl, Goes.alloc hS m _ _ fun ρ' hle => ?_⟩
    refine .cells (by omega) (Nat.le_refl _) ?_ ?_ (fun _ => .inl rfl) (fun _ => rfl)
    · intro i u hu
      rw [Tr.get_ofList] at hu
      rcases Nat.lt_or_ge i cs.length with x | x
      · omega
      · rw [List.getElem?_eq_none x] at hu; cases hu
    · intro i u hu
      rw [Tr.get_ofList] at hu
      obtain ⟨u', hu', hr⟩ := hc.get hu
      exact ⟨u', by simpa using hu', hr.mono hle⟩

end Go.Vm

/-
  A virtual semantics of the model's code (8): integers, strings, '=='.
-/
namespace Go.Vm
variable {P : Program} {G : Nat} {ρ : Ren} {S : St} {w : World}

theorem strEq_eq : ∀ a b : List UInt8, strEq a b = (a == b)
  | [], [] => rfl
  | [], _ :: _ => rfl
  | _ :: _, [] => rfl
  | a :: l, b :: m => by
    simp only [strEq]
    cases h : Nat.beq a.toNat b.toNat with
    | true =>
      have : a = b := UInt8.toNat_inj.1 (Nat.eq_of_beq_eq_true h)
      subst this
      simp [strEq_eq l m]
    | false =>
      have : a ≠ b := by
        rintro rfl
        rw [Nat.beq_refl] at h
        cases h
      simp [this]

theorem strLess_eq : ∀ a b : List UInt8, strLess a b = Op.bytesLess a b
  | [], [] => rfl
  | [], _ :: _ => rfl
  | _ :: _, [] => rfl
  | a :: l, b :: m => by
    simp only [strLess, Op.bytesLess]
    cases h : Nat.blt a.toNat b.toNat with
    | true =>
      have : a < b := by simpa [Nat.blt_eq, UInt8.lt_iff_toNat_lt] using h
      simp [this]
    | false =>
      have h1 : ¬ a < b := by
        intro h2
        rw [UInt8.lt_iff_toNat_lt] at h2
        have : Nat.blt a.toNat b.toNat = true := by simpa [Nat.blt_eq] using h2
        rw [h] at this; cases this
      cases h3 : Nat.beq a.toNat b.toNat with
      | true =>
        have : a = b := UInt8.toNat_inj.1 (Nat.eq_of_beq_eq_true h3)
        subst this
        simp [strLess_eq l m]
      | false =>
        have : a ≠ b := by
          rintro rfl
          rw [Nat.beq_refl] at h3
          cases h3
        simp [this, h1]

theorem r_intOp {op : BinOp} {k : IntKind} {a b : Int} {v : VV} (t : TypeId) (h : intOpV op k a b = some v) (w : World) : ∃ v', (binOp op t (.int k a) (.int k b)).run P w = .ok v' w ∧ ∀ ρ, VRel ρ v v' := by
  cases op <;> simp only [intOpV, Option.some.injEq, reduceCtorEq] at h
  case quo | rem =>
    split at h
    · cases h
    · rename_i hb
      simp only [Option.some.injEq] at h
      subst h
      refine ⟨_, ?_, fun ρ => .int _ _⟩
      simp [binOp, Op.intDiv, hb]
  all_goals
    subst h
    first
      | exact ⟨.int k _, by simp [binOp, Op.intBits, Op.intArith, Op.intCmp], fun ρ => .int _ _⟩
      | exact ⟨.bool _, by simp [binOp, Op.intBits, Op.intArith, Op.intCmp], fun ρ => .bool _⟩

theorem r_shift {op : BinOp} {k k' : IntKind} {a y : Int} {v : VV} (t : TypeId) (h : shiftV op k a y = some v) (w : World) : ∃ v', (binOp op t (.int k a) (.int k' y)).run P w = .ok v' w ∧ ∀ ρ, VRel ρ v v' := by
  unfold shiftV at h
  split at h
  · cases h
  · rename_i hy
    cases op <;> simp only [Option.some.injEq, reduceCtorEq] at h <;> subst h <;> refine ⟨_, ?_, fun ρ => .int _ _⟩ <;> simp [binOp, Op.shift, hy]

theorem r_strOp {op : BinOp} {x y : ByteArray} {v : VV} (t : TypeId) (h : strOpV op x.data.toList y.data.toList = some v) (w : World) : ∃ v', (binOp op t (.string x) (.string y)).run P w = .ok v' w ∧ ∀ ρ, VRel ρ v v' := by
  cases op <;> simp only [strOpV, strEq_eq, strLess_eq, Option.some.injEq, reduceCtorEq] at h
  case add =>
    split at h
    · rename_i hl
      simp only [Option.some.injEq] at h
      subst h
      have hl' : ¬ (((x.size + y.size : Nat) : Int) > IntKind.i64.max) := by
        have h1 : x.data.toList.length = x.size := by simp
        have h2 : y.data.toList.length = y.size := by simp
        rw [h1, h2] at hl
        simp only [IntKind.max, IntKind.signed, IntKind.bits]
        omega
      refine ⟨.string (x ++ y), ?_, fun ρ => ?_⟩
      · simp only [binOp, Op.stringOp, Sem.run_ite, if_neg hl']
        rfl
      · have := VRel.str (ρ := ρ) (x ++ y)
        simpa using this
    · cases h
  all_goals
    subst h
    refine ⟨_, rfl, fun ρ => ?_⟩
    simp only [ByteArray.toList_eq]
    exact .bool _

/- '==' -/
theorem Sim.cellsAt (hS : Sim G ρ S w) {i r b n m : Nat} {c : Tr VV} {t : TypeId} {ro mk : Bool} (h : S.h.get i = some (.cells c m t ro mk)) (hρ : ρ i = some (r, b, n)) :
    ∃ cs t' fr, w.heap[r]? = some (.cells cs t' fr) ∧ cs.size = b + n ∧ m ≤ n ∧ (mk = false → fr.1 = fr.2) := by
  obtain ⟨r', b', n', cs, t', fr, h1, h2, h3, h4, _, _, _, h8⟩ := hS.row h
  rw [hρ] at h1
  cases h1
  exact ⟨cs, t', fr, h2, h3, h4, h8⟩

theorem r_sameAddr {i j r b n r' b' n' : Nat} (o o' : Nat) (hS : Sim G ρ S w) (hi : ρ i = some (r, b, n)) (hj : ρ j = some (r', b', n')) (hne : i ≠ j) (h : apartV S i j = true) :
    (sameAddr ⟨r, b + o, none⟩ ⟨r', b' + o', none⟩).run P w = .ok false w := by
  unfold apartV at h
  split at h
  · rename_i c m t ro mk c' m' t' ro' mk' h1 h2
    obtain ⟨cs, ty, fr, g1, g2, g3, g4⟩ := hS.cellsAt h1 hi
    obtain ⟨cs', ty', fr', k1, k2, k3, k4⟩ := hS.cellsAt h2 hj
    have hrr : r ≠ r' := by
      rintro rfl
      exact hne (hS.inj i j _ _ r b n b' n' h1 h2 hi hj)
    have hb : (r == r') = false := by simp [hrr]
    have s1 : w.shape? r = some (ty, cs.size) := by simp [World.shape?, g1]
    have s2 : w.shape? r' = some (ty', cs'.size) := by simp [World.shape?, k1]
    have f1 : mk = false → ∀ off, w.frozen? ⟨r, off, none⟩ = false := by
      intro e off
      have := g4 e
      simp only [World.frozen?, g1]
      rw [Bool.and_eq_false_iff]
      rcases Nat.lt_or_ge off fr.2 with x | x
      · exact .inl (by simp; omega)
      · exact .inr (by simp; omega)
    have f2 : mk' = false → ∀ off, w.frozen? ⟨r', off, none⟩ = false := by
      intro e off
      have := k4 e
      simp only [World.frozen?, k1]
      rw [Bool.and_eq_false_iff]
      rcases Nat.lt_or_ge off fr'.2 with x | x
      · exact .inl (by simp; omega)
      · exact .inr (by simp; omega)
    have z1 : cs.size ≠ 0 := by omega
    have z2 : cs'.size ≠ 0 := by omega
    have hm : mk = false ∨ mk' = false := by
      cases mk <;> cases mk' <;> simp_all
    have y1 : (stringish ⟨r, b + o, none⟩).run P w = .ok (w.frozen? ⟨r, b + o, none⟩ || w.frozen? ⟨r, cs.size, none⟩) w := by
      simp only [stringish, Sem.run_bind, run_frozen, Result.andThen_ok]
      cases w.frozen? ⟨r, b + o, none⟩ <;> simp [s1]
    have y2 : (stringish ⟨r', b' + o', none⟩).run P w = .ok (w.frozen? ⟨r', b' + o', none⟩ || w.frozen? ⟨r', cs'.size, none⟩) w := by
      simp only [stringish, Sem.run_bind, run_frozen, Result.andThen_ok]
      cases w.frozen? ⟨r', b' + o', none⟩ <;> simp [s2]
    have n1 : (match (some (ty, cs.size) : Option (TypeId × Nat)) with | some (_, 0) => true | _ => false) = false := by
      cases hc : cs.size with
      | zero => exact absurd hc z1
      | succ q => rfl
    have n2 : (match (some (ty', cs'.size) : Option (TypeId × Nat)) with | some (_, 0) => true | _ => false) = false := by
      cases hc : cs'.size with
      | zero => exact absurd hc z2
      | succ q => rfl
    have one : (mayBeOne ⟨r, b + o, none⟩ ⟨r', b' + o', none⟩).run P w = .ok false w := by
      simp only [mayBeOne, Sem.run_bind, y1, y2, Result.andThen_ok, run_shape, s1, s2, Sem.run_pure]
      congr 1
      rcases hm with e | e
      · rw [f1 e, f1 e]
        simp
        intro _
        exact n2
      · rw [f2 e, f2 e]
        simp
        intro _
        exact n1
    have v1 : (viewAt r).run P w = .ok none w := by simp [viewAt, s1]
    have v2 : (viewAt r').run P w = .ok none w := by simp [viewAt, s2]
    have ff : (w.frozen? ⟨r, b + o, none⟩ && w.frozen? ⟨r', b' + o', none⟩) = false := by
      rcases hm with e | e
      · rw [f1 e]; rfl
      · rw [f2 e, Bool.and_false]
    simp only [sameAddr, Sem.run_bind, run_frozen, Result.andThen_ok, hb, Bool.false_eq_true, if_false, noView, v1, v2, one, ff, Sem.run_pure, Option.isSome_none]
  · cases h

end Go.Vm

/-
  A virtual semantics of the model's code (9): '==' of values; types' questions.
-/
namespace Go.Vm
variable {P : Program} {G : Nat} {ρ : Ren} {S : St} {w : World}

/-- what an equality of a type is good for, so deep -/
def EqSound (P : Program) (ρ : Ren) (w : World) (d : Nat) (eq : TypeId → VV → VV → Option Bool) : Prop :=
  ∀ t x y r x' y', eq t x y = some r → VRel ρ x x' → VRel ρ y y' → (Op.equalIn d t x' y').run P w = .ok r w

theorem r_eqFields {d : Nat} {eq : TypeId → VV → VV → Option Bool} (he : EqSound P ρ w d eq) {xs ys : List VV} {xs' ys' : Array Value} (hx : VRels ρ xs xs'.toList) (hy : VRels ρ ys ys'.toList) :
    ∀ (fs : List Field) (r : Bool), eqFieldsV P eq xs ys fs = some r → (Op.eqFields d xs' ys' fs).run P w = .ok r w := by
  intro fs
  induction fs with
  | nil => intro r h; simp only [eqFieldsV, Option.some.injEq] at h; subst h; rfl
  | cons f fs ih =>
    intro r h
    simp only [eqFieldsV] at h
    simp only [Op.eqFields]
    by_cases hn : f.name = "_"
    · simp only [hn, ne_eq, not_true_eq_false, if_false] at h ⊢
      exact ih r h
    · simp only [hn, ne_eq, not_false_eq_true, if_true] at h ⊢
      cases ha : partV P f.type xs f.offset with
      | none => simp [ha] at h
      | some a =>
        cases hb : partV P f.type ys f.offset with
        | none => simp [ha, hb] at h
        | some b =>
          simp only [ha, hb] at h
          obtain ⟨a', ra, va⟩ := r_part ha hx w
          obtain ⟨b', rb, vb⟩ := r_part hb hy w
          simp only [Sem.run_bind, ra, rb, Result.andThen_ok]
          cases hq : eq f.type a b with
          | none => simp [hq] at h
          | some q =>
            simp only [hq] at h
            rw [he _ _ _ _ _ _ hq va vb]
            cases q with
            | true => simpa using ih r h
            | false => simp only [Option.some.injEq] at h; subst h; rfl

theorem r_eqElems {d : Nat} {eq : TypeId → VV → VV → Option Bool} (he : EqSound P ρ w d eq) {xs ys : List VV} {xs' ys' : Array Value} (hx : VRels ρ xs xs'.toList) (hy : VRels ρ ys ys'.toList) {e : TypeId} {z : Nat} :
    ∀ (n i : Nat) (r : Bool), eqElemsV P eq e z xs ys n i = some r →
      (forIn (m := Sem) (List.range' i n) ((none, ()) : Option Bool × Unit) fun i _ => do
        let a ← part e xs' (i * z)
        let b ← part e ys' (i * z)
        let c ← Op.equalIn d e a b
        if (!c) = true then pure (.done (some false, ())) else pure (.yield (none, ()))).run P w = .ok ((if r then none else some false, ()) : Option Bool × Unit) w := by
  intro n
  induction n with
  | zero => intro i r h; simp only [eqElemsV, Option.some.injEq] at h; subst h; rfl
  | succ n ih =>
    intro i r h
    simp only [eqElemsV] at h
    cases ha : partV P e xs (i * z) with
    | none => simp [ha] at h
    | some a =>
      cases hb : partV P e ys (i * z) with
      | none => simp [ha, hb] at h
      | some b =>
        simp only [ha, hb] at h
        obtain ⟨a', ra, va⟩ := r_part ha hx w
        obtain ⟨b', rb, vb⟩ := r_part hb hy w
        simp only [List.range'_succ, List.forIn_cons, Sem.run_bind, ra, rb, Result.andThen_ok]
        cases hq : eq e a b with
        | none => simp [hq] at h
        | some q =>
          simp only [hq] at h
          rw [he _ _ _ _ _ _ hq va vb]
          cases q with
          | true => simpa using ih (i + 1) r h
          | false => simp only [Option.some.injEq] at h; subst h; rfl

set_option maxHeartbeats 2000000 in
theorem r_eqV (hS : Sim G ρ S w) : ∀ d, EqSound P ρ w d (eqV P S d) := by
  intro d
  induction d with
  | zero => intro t x y r x' y' h; simp [eqV] at h
  | succ d ih =>
    intro t x y r x' y' h hx hy
    simp only [eqV] at h
    cases hu : P.underlying t with
    | none => simp [hu] at h
    | some ty =>
      cases ty <;> simp only [hu, reduceCtorEq] at h
      case bool =>
        cases hx <;> cases hy <;> simp only [Option.some.injEq, reduceCtorEq] at h
        subst h
        simp [Op.equalIn, r_underlying hu]
      case int k =>
        cases hx <;> cases hy <;> simp only [reduceCtorEq] at h
        split at h
        · rename_i hk
          simp only [Option.some.injEq] at h
          subst h
          simp [Op.equalIn, r_underlying hu, hk]
        · cases h
      case string =>
        cases hx <;> cases hy <;> simp only [Option.some.injEq, reduceCtorEq] at h
        subst h
        rename_i a b
        simp [Op.equalIn, r_underlying hu, strEq_eq, beq_toListBytes, ByteArray.toList_eq]
      case pointer e =>
        cases hx <;> cases hy <;> simp only [Option.some.injEq, reduceCtorEq] at h
        · subst h; simp [Op.equalIn, r_underlying hu]
        · subst h; simp [Op.equalIn, r_underlying hu]
        · subst h; simp [Op.equalIn, r_underlying hu]
        · rename_i id r1 b1 n1 off h1 id' r2 b2 n2 off' h2
          cases hz : sizeV P e with
          | none => simp [hz] at h
          | some z =>
            cases z with
            | zero => simp [hz] at h
            | succ z =>
              simp only [hz] at h
              simp only [Op.equalIn, Sem.run_bind, r_underlying hu, Result.andThen_ok, r_sizeOf hz, ne_eq, Nat.succ_ne_zero, not_false_eq_true, if_true, Nat.add_eq_zero_iff, Nat.one_ne_zero, and_false]
              by_cases e1 : id = id'
              · subst e1
                rw [h1] at h2
                cases h2
                simp only [if_true, Option.some.injEq] at h
                subst h
                have e3 : ((⟨r1, b1 + off, none⟩ : Addr) == ⟨r1, b1 + off', none⟩) = (off == off') := by
                  by_cases e2 : off = off'
                  · subst e2; simp
                  · have : (⟨r1, b1 + off, none⟩ : Addr) ≠ ⟨r1, b1 + off', none⟩ := fun x => e2 (by injection x with _ x; omega)
                    rw [beq_eq_false_iff_ne.2 this, beq_eq_false_iff_ne.2 e2]
                simp [sameAddr, e3]
              · simp only [e1, if_false] at h
                cases ha : apartV S id id' with
                | false => simp [ha] at h
                | true =>
                  simp only [ha, if_true, Option.some.injEq] at h
                  subst h
                  exact r_sameAddr off off' hS h1 h2 e1 ha
      case slice e =>
        cases hx <;> cases hy <;> simp only [Option.some.injEq, reduceCtorEq] at h <;> subst h <;> simp [Op.equalIn, r_underlying hu]
      case map k e =>
        cases hx <;> cases hy <;> simp only [Option.some.injEq, reduceCtorEq] at h <;> subst h <;> simp [Op.equalIn, r_underlying hu]
      case func a b c =>
        cases hx <;> cases hy <;> simp only [Option.some.injEq, reduceCtorEq] at h <;> subst h <;> simp [Op.equalIn, r_underlying hu]
      case interface ms =>
        cases hx <;> cases hy <;> simp only [Option.some.injEq, reduceCtorEq] at h
        · rename_i tx vx vx' hvx ty vy vy' hvy
          by_cases e1 : tx = ty
          · subst e1
            simp only [ne_eq, not_true_eq_false, if_false] at h
            cases hi : P.info? tx with
            | none => simp [hi] at h
            | some i =>
              simp only [hi] at h
              split at h
              · rename_i hc
                simp only [Op.equalIn, Sem.run_bind, r_underlying hu, Result.andThen_ok, ne_eq, not_true_eq_false, if_false, r_typeInfo hi, hc, Bool.not_true, Bool.false_eq_true, Sem.run_pure]
                exact ih _ _ _ _ _ _ h hvx hvy
              · cases h
          · simp only [ne_eq, e1, not_false_eq_true, if_true, Option.some.injEq] at h
            subst h
            simp [Op.equalIn, r_underlying hu, e1]
        · subst h; simp [Op.equalIn, r_underlying hu]
        · subst h; simp [Op.equalIn, r_underlying hu]
        · subst h; simp [Op.equalIn, r_underlying hu]
      case struct fields =>
        cases hx <;> cases hy <;> simp only [reduceCtorEq] at h
        rename_i xs xs' hxs ys ys' hys
        cases hp : P.stoodInHeld t with
        | true => simp [hp] at h
        | false =>
          simp only [hp, Bool.false_eq_true, if_false] at h
          have hf : P.fieldsOf t = fields := by simp [Program.fieldsOf, hu]
          rw [run_equalIn_struct w d t xs' ys' (by rw [hf]; exact hu) hp, hf]
          exact r_eqFields ih hxs hys _ _ h
      case array n e =>
        cases hx <;> cases hy <;> simp only [reduceCtorEq] at h
        rename_i xs xs' hxs ys ys' hys
        cases hz : sizeV P e with
        | none => simp [hz] at h
        | some z =>
          simp only [hz] at h
          have := r_eqElems ih hxs hys n 0 r h
          simp only [Op.equalIn, Sem.run_bind, r_underlying hu, Result.andThen_ok, r_sizeOf hz, Std.Legacy.Range.forIn_eq_forIn_range', Std.Legacy.Range.size]
          simp only [Nat.sub_zero, Nat.add_sub_cancel, Nat.div_one]
          rw [this]
          cases r <;> simp

end Go.Vm

/-
  A virtual semantics of the model's code (10): operations that leave the state as it is.
-/
namespace Go.Vm
variable {P : Program} {G : Nat} {ρ : Ren} {S : St} {w : World}

theorem putRow_toList (a : Array Value) (off : Nat) (l : List Value) (h : off + l.length ≤ a.size) : (putRow a off l).toList = a.toList.take off ++ (l ++ a.toList.drop (off + l.length)) := by
  apply List.ext_getElem?
  intro j
  have := putRow_get l a off h j
  rw [Array.getElem?_toList, this]
  by_cases h1 : j < off
  · rw [if_neg (by omega), List.getElem?_append_left (by simp; omega), List.getElem?_take, if_pos h1, Array.getElem?_toList]
  · by_cases h2 : j < off + l.length
    · rw [if_pos (by omega), List.getElem?_append_right (by simp; omega), List.getElem?_append_left (by simp; omega)]
      simp [show min off a.size = off by omega]
    · rw [if_neg (by omega), List.getElem?_append_right (by simp; omega), List.getElem?_append_right (by simp; omega), List.getElem?_drop, Array.getElem?_toList]
      congr 1
      simp
      omega

theorem foldl_putRow (off : Nat) : ∀ (l : List Value) (i : Nat) (a : Array Value), (l.zipIdx i).foldl (fun cs (x : Value × Nat) => cs.setIfInBounds (off + x.2) x.1) a = putRow a (off + i) l := by
  intro l
  induction l with
  | nil => intro i a; rfl
  | cons v l ih => intro i a; simp only [List.zipIdx_cons, List.foldl_cons, putRow, ih]; rfl

theorem cellsV_rel {v : VV} {v' : Value} {cs : List VV} (h : cellsV v = some cs) (hv : VRel ρ v v') : VRels ρ cs v'.cells.toList := by
  cases hv <;> simp only [cellsV, Option.some.injEq, reduceCtorEq] at h
  case agg hh => subst h; exact hh
  all_goals (subst h; exact .cons (by first | exact .bool _ | exact .int _ _ | exact .str _ | exact .nilPtr | exact .ptr ‹_› | exact .nilSlice _ _ | exact .slice _ _ ‹_› | exact .rest _ _ _ ‹_› ‹_› ‹_› | exact .restEnd _ _ ‹_› | exact .sliceEnd _ ‹_› | exact .nilMap | exact .map ‹_› | exact .func ‹_› ‹_› ‹_› | exact .nilFunc | exact .iface _ ‹_› | exact .nilIface | exact .tuple ‹_›) .nil)

inductive PRels (ρ : Ren) : List (Nat × VV) → List (Nat × Value) → Prop where
  | nil : PRels ρ [] []
  | cons {i : Nat} {v : VV} {v' : Value} {l : List (Nat × VV)} {l' : List (Nat × Value)} (h : VRel ρ v v') (t : PRels ρ l l') : PRels ρ ((i, v) :: l) ((i, v') :: l')

theorem PRels.map {e : Operand → VV} {e' : Operand → Value} (he : ∀ x, VRel ρ (e x) (e' x)) : ∀ l : List (Nat × Operand), PRels ρ (l.map fun (i, x) => (i, e x)) (l.map fun (i, x) => (i, e' x))
  | [] => .nil
  | (i, x) :: l => .cons (he x) (PRels.map he l)

theorem fillV_rel {place place' : Nat → Option (Nat × Nat)} (hpl : ∀ i, place i = place' i) : ∀ {parts : List (Nat × VV)} {parts' : List (Nat × Value)} {cells : List VV} {cells' : Array Value} {r : List VV},
    fillV place cells parts = some r → PRels ρ parts parts' → VRels ρ cells cells'.toList → ∃ r', Instr.fill place' cells' parts' = some r' ∧ VRels ρ r r'.toList := by
  intro parts
  induction parts with
  | nil =>
    intro parts' cells cells' r h hp hc
    cases hp
    simp only [fillV, Option.some.injEq] at h
    subst h
    exact ⟨cells', rfl, hc⟩
  | cons p parts ih =>
    intro parts' cells cells' r h hp hc
    cases hp with
    | cons hv ht =>
      rename_i i v v' l'
      simp only [fillV] at h
      cases hpi : place i with
      | none => simp [hpi] at h
      | some q =>
        obtain ⟨off, size⟩ := q
        cases hcv : cellsV v with
        | none => simp [hpi, hcv] at h
        | some cs =>
          simp only [hpi, hcv] at h
          split at h
          · rename_i hx
            obtain ⟨h1, h2⟩ := hx
            have hcs := cellsV_rel hcv hv
            have l1 := hcs.length
            have l2 := hc.length
            simp only [Array.length_toList] at l1 l2
            have hf := foldl_putRow off v'.cells.toList 0 cells'
            simp only [Nat.add_zero] at hf
            have hr := ih (cells' := putRow cells' off v'.cells.toList) h ht (by
              rw [putRow_toList _ _ _ (by simp; omega)]
              refine (hc.take off).append (hcs.append ?_)
              have := hc.drop (off + cs.length)
              rw [show v'.cells.toList.length = cs.length by simpa using l1]
              exact this)
            obtain ⟨r', e1, e2⟩ := hr
            refine ⟨r', ?_, e2⟩
            simp only [Instr.fill, ← hpl, hpi]
            rw [if_neg (by simp; omega)]
            rw [← e1, ← hf]
            congr 1
            rw [← Array.foldl_toList, Array.toList_zipIdx]
          · cases h

theorem placesV_run : ∀ {l : List Field} {ps : List (Nat × Nat)}, placesV P l = some ps → ∀ w, (l.mapM (m := Sem) fun f => do pure (f.offset, ← sizeOf f.type)).run P w = .ok ps w := by
  intro l
  induction l with
  | nil => intro ps h w; simp only [placesV, Option.some.injEq] at h; subst h; rfl
  | cons f l ih =>
    intro ps h w
    simp only [placesV] at h
    cases hs : sizeV P f.type with
    | none => simp [hs] at h
    | some n =>
      cases hp : placesV P l with
      | none => simp [hs, hp] at h
      | some q =>
        simp only [hs, hp, Option.some.injEq] at h
        subst h
        simp only [List.mapM_cons, Sem.run_bind, r_sizeOf hs, Result.andThen_ok, Sem.run_pure, ih hp]

theorem r_build {t : TypeId} {parts : List (Nat × VV)} {parts' : Array (Nat × Value)} {v : VV} (h : buildV P t parts = some v) (hp : PRels ρ parts parts'.toList) (w : World) :
    ∃ v', (Instr.build t parts').run P w = .ok v' w ∧ VRel ρ v v' := by
  unfold buildV at h
  cases hz : zeroV P t with
  | none => simp [hz] at h
  | some z =>
    obtain ⟨z', rz, ez⟩ := r_zeroValue hz
    cases hc : cellsV z with
    | none => simp [hz, hc] at h
    | some zero =>
      have hzr : VRels ρ zero z'.cells.toList := cellsV_rel hc (by rw [ez]; exact ofValue_rel ρ z')
      simp only [hz, hc] at h
      cases hu : P.underlying t with
      | none => simp [hu] at h
      | some d =>
        cases d <;> simp only [hu, reduceCtorEq] at h
        case struct fields =>
          cases hpl : placesV P fields.toList with
          | none => simp [hpl] at h
          | some places =>
            simp only [hpl] at h
            cases hf : fillV (places[·]?) zero parts with
            | none => simp [hf] at h
            | some cs =>
              simp only [hf, Option.some.injEq] at h
              subst h
              obtain ⟨r', e1, e2⟩ := fillV_rel (place' := fun i => places.toArray[i]?) (fun i => by simp) hf hp hzr
              refine ⟨.agg r', ?_, .agg e2⟩
              have hm : ∀ w, (fields.mapM (m := Sem) fun f => do pure (f.offset, ← sizeOf f.type)).run P w = .ok places.toArray w := by
                intro w
                rw [Array.mapM_eq_mapM_toList, Sem.run_map, placesV_run hpl]
                rfl
              simp only [Instr.build, Sem.run_bind, rz, Result.andThen_ok, r_underlying hu, hm, e1, Sem.run_pure]
        case array n e =>
          cases hs : sizeV P e with
          | none => simp [hs] at h
          | some size =>
            simp only [hs] at h
            cases hf : fillV (fun i => some (i * size, size)) zero parts with
            | none => simp [hf] at h
            | some cs =>
              simp only [hf, Option.some.injEq] at h
              subst h
              obtain ⟨r', e1, e2⟩ := fillV_rel (place' := fun i => some (i * size, size)) (fun i => rfl) hf hp hzr
              exact ⟨.agg r', by simp only [Instr.build, Sem.run_bind, rz, Result.andThen_ok, r_underlying hu, r_sizeOf hs, e1, Sem.run_pure], .agg e2⟩

theorem r_fieldAddr {s : TypeId} {a v : VV} {a' : Value} {f : Nat} (h : fieldAddrV P s a f = some v) (ha : VRel ρ a a') (w : World) : ∃ v', (Instr.fieldAt s a' f).run P w = .ok v' w ∧ VRel ρ v v' := by
  unfold fieldAddrV at h
  cases hu : P.underlying s with
  | none => simp [hu] at h
  | some d =>
    cases d <;> simp only [hu, reduceCtorEq] at h
    rename_i fields
    cases hf : fields[f]? with
    | none => simp [hf] at h
    | some fd =>
      cases ha <;> simp only [hf, reduceCtorEq] at h
      rename_i id r b n off hρ
      cases hs : sizeV P fd.type with
      | none => simp [hs] at h
      | some z =>
        cases z with
        | zero => simp [hs] at h
        | succ z =>
          simp only [hs, Option.some.injEq] at h
          subst h
          refine ⟨_, ?_, .ptr (off := off + fd.offset) hρ⟩
          simp [Instr.fieldAt, r_underlying hu, hf, Instr.sureAddr, fieldPlace, r_sizeOf hs, Addr.add_none, Nat.add_assoc]

theorem r_field {s : TypeId} {a v : VV} {a' : Value} {f : Nat} (h : fieldV P s a f = some v) (ha : VRel ρ a a') (w : World) : ∃ v', (Instr.field s a' f).run P w = .ok v' w ∧ VRel ρ v v' := by
  unfold fieldV at h
  cases hu : P.underlying s with
  | none => simp [hu] at h
  | some d =>
    cases d <;> simp only [hu, reduceCtorEq] at h
    rename_i fields
    cases hf : fields[f]? with
    | none => simp [hf] at h
    | some fd =>
      cases ha <;> simp only [hf, reduceCtorEq] at h
      rename_i cs cs' hc
      obtain ⟨v', e1, e2⟩ := r_part h hc w
      exact ⟨v', by simp [Instr.field, r_underlying hu, hf, asAgg, e1], e2⟩

theorem r_indexSlice {t e : TypeId} {k : IntKind} {i : Int} {r o len c z : Nat} (hu : P.underlying t = some (.slice e)) (hs : sizeV P e = some z) (h0 : 0 ≤ i) (hb : i.toNat < len) :
    (Instr.indexAt t (.slice (some ⟨r, o, none⟩) len c) (.int k i)).run P w = .ok (.pointer (some ⟨r, o + i.toNat * z, none⟩)) w := by
  have h2 : (0 ≤ i ∧ i < (len : Int)) := ⟨h0, by omega⟩
  simp only [Instr.indexAt, asIntOf, Sem.run_bind, Sem.run_pure, Result.andThen_ok, r_underlying hu, Sem.run_ite, if_pos h2, r_sizeOf hs, Addr.add_none]

theorem r_indexAddr {t : TypeId} {x ix v : VV} {x' ix' : Value} (h : indexAddrV P t x ix = some v) (hx : VRel ρ x x') (hi : VRel ρ ix ix') (w : World) : ∃ v', (Instr.indexAt t x' ix').run P w = .ok v' w ∧ VRel ρ v v' := by
  unfold indexAddrV at h
  cases hi <;> simp only [reduceCtorEq] at h
  rename_i k i
  split at h
  · rename_i h0
    cases hu : P.underlying t with
    | none => simp [hu] at h
    | some d =>
      cases d <;> simp only [hu, reduceCtorEq] at h
      case array len e =>
        cases hx <;> try (simp only [reduceCtorEq] at h; done)
        rename_i id r b n off hρ
        cases hs : sizeV P e with
        | none => simp [hs] at h
        | some z =>
          try simp only [hs] at h
          cases hb : Nat.blt i.toNat len with
          | false => simp [hb] at h
          | true =>
            simp only [hb, Option.some.injEq] at h
            subst h
            have hb' : i.toNat < len := by simpa [Nat.blt_eq] using hb
            have h2 : (0 ≤ i ∧ i < (len : Int)) := ⟨h0, by omega⟩
            refine ⟨_, ?_, .ptr (off := off + i.toNat * z) hρ⟩
            simp only [Instr.indexAt, asIntOf, Sem.run_bind, Sem.run_pure, Result.andThen_ok, r_underlying hu, Instr.sureAddr, Sem.run_ite, if_pos h2, r_sizeOf hs, Addr.add_none, Nat.add_assoc]
      case slice e =>
        cases hx <;> try (simp only [reduceCtorEq] at h; done)
        case slice id r b n off len c hρ =>
          cases hs : sizeV P e with
          | none => simp [hs] at h
          | some z =>
            simp only [hs] at h
            cases hb : Nat.blt i.toNat len with
            | false => simp [hb] at h
            | true =>
              simp only [hb, Option.some.injEq] at h
              subst h
              exact ⟨_, by rw [r_indexSlice hu hs h0 (by simpa [Nat.blt_eq] using hb), Nat.add_assoc], .ptr hρ⟩
        case rest id r b n off len c z' hρ hc hl =>
          cases hs : sizeV P e with
          | none => simp [hs] at h
          | some z =>
            simp only [hs] at h
            cases hb : Nat.blt i.toNat len with
            | false => simp [hb] at h
            | true =>
              simp only [hb, Option.some.injEq] at h
              subst h
              exact ⟨_, by rw [r_indexSlice hu hs h0 (by simpa [Nat.blt_eq] using hb), Nat.add_assoc], .ptr hρ⟩
        case restEnd id r b n off off' z' hρ =>
          cases hs : sizeV P e with
          | none => simp [hs] at h
          | some z => simp [hs, Nat.blt, Nat.ble] at h
        case sliceEnd id r b n off off' hρ =>
          cases hs : sizeV P e with
          | none => simp [hs] at h
          | some z => simp [hs, Nat.blt, Nat.ble] at h
  · cases h

end Go.Vm

/-
  A virtual semantics of the model's code (11): more operations that leave the state as it is.
-/
namespace Go.Vm
variable {P : Program} {G : Nat} {ρ : Ren} {S : St} {w : World}

theorem r_index {t : TypeId} {x ix v : VV} {x' ix' : Value} (h : indexV P t x ix = some v) (hx : VRel ρ x x') (hi : VRel ρ ix ix') (w : World) : ∃ v', (Instr.index t x' ix').run P w = .ok v' w ∧ VRel ρ v v' := by
  unfold indexV at h
  cases hi <;> simp only [reduceCtorEq] at h
  rename_i k i
  split at h
  · rename_i h0
    cases hu : P.underlying t with
    | none => simp [hu] at h
    | some d =>
      cases d <;> simp only [hu, reduceCtorEq] at h
      case array len e =>
        cases hx <;> try (simp only [reduceCtorEq] at h; done)
        rename_i cs cs' hc
        cases hs : sizeV P e with
        | none => simp [hs] at h
        | some z =>
          simp only [hs] at h
          cases hb : Nat.blt i.toNat len with
          | false => simp [hb] at h
          | true =>
            simp only [hb] at h
            have hb' : i.toNat < len := by simpa [Nat.blt_eq] using hb
            have h2 : (0 ≤ i ∧ i < (len : Int)) := ⟨h0, by omega⟩
            obtain ⟨v', e1, e2⟩ := r_part h hc w
            exact ⟨v', by simp only [Instr.index, asIntOf, Sem.run_bind, Sem.run_pure, Result.andThen_ok, r_underlying hu, Sem.run_ite, if_pos h2, r_sizeOf hs, e1], e2⟩
      case string =>
        cases hx <;> try (simp only [reduceCtorEq] at h; done)
        rename_i s
        cases hg : s.data.toList[i.toNat]? with
        | none => simp only [hg, reduceCtorEq] at h
        | some b =>
          simp only [hg, Option.some.injEq] at h
          subst h
          have hg' : s[i.toNat]? = some b := by
            have hl : i.toNat < s.size := by
              rcases Nat.lt_or_ge i.toNat s.data.toList.length with q | q
              · simpa using q
              · rw [List.getElem?_eq_none q] at hg; cases hg
            rw [getElem?_pos s i.toNat hl]
            congr 1
            rw [List.getElem?_eq_getElem (by simpa using hl)] at hg
            simp only [Option.some.injEq] at hg
            rw [← hg]
            rfl
          refine ⟨.int .u8 b.toNat, ?_, .int _ _⟩
          simp only [Instr.index, asIntOf, Sem.run_bind, Sem.run_pure, Result.andThen_ok, r_underlying hu, if_pos h0, hg']
  · cases h

/- bounds -/
theorem r_bound {x : VV} {x' : Value} {y i : Nat} {code : BoundsCode} (h : boundV x y = some i) (hx : VRel ρ x x') (w : World) : (Instr.sliceBound x' y code).run P w = .ok i w ∧ i ≤ y := by
  unfold boundV at h
  cases hx <;> simp only [reduceCtorEq] at h
  rename_i k n
  split at h
  · rename_i h0
    cases hb : Nat.ble n.toNat y with
    | false => simp [hb] at h
    | true =>
      simp only [hb, Option.some.injEq] at h
      subst h
      have hb' := Nat.le_of_ble_eq_true hb
      have h2 : (0 ≤ n ∧ n ≤ (y : Int)) := ⟨h0, by omega⟩
      exact ⟨by simp only [Instr.sliceBound, asIntOf, Sem.run_bind, Sem.run_pure, Result.andThen_ok, Sem.run_ite, if_pos h2], hb'⟩
  · cases h

inductive OptRel (ρ : Ren) : Option VV → Option Value → Prop where
  | none : OptRel ρ none none
  | some {v : VV} {v' : Value} (h : VRel ρ v v') : OptRel ρ (some v) (some v')

theorem OptRel.map {e : Operand → VV} {e' : Operand → Value} (he : ∀ x, VRel ρ (e x) (e' x)) (o : Option Operand) : OptRel ρ (o.map e) (o.map e') := by
  cases o with
  | none => exact .none
  | some x => exact .some (he x)

/-- the bounds, where the virtual ones are reckoned with no more than there is -/
theorem r_bounds {lo hi mx : Option VV} {lo' hi' mx' : Option Value} {isSlice : Bool} {len n cap l h m : Nat} (hb : boundsV len n lo hi mx = some (l, h, m)) (hl : OptRel ρ lo lo') (hh : OptRel ρ hi hi') (hm : OptRel ρ mx mx')
    (hno : hi = none → mx = none) (hn : n ≤ cap) (w : World) :
    ∃ m', (Instr.sliceBounds isSlice len cap lo' hi' mx').run P w = .ok (l, h, m') w ∧ l ≤ h ∧ (len ≤ n → h ≤ n) ∧ m ≤ n ∧ ((mx = none ∧ m' = cap ∧ m = n) ∨ m' = m) := by
  unfold boundsV at hb
  cases hm with
  | none =>
    simp only [optBoundV] at hb
    cases hh with
    | none =>
      simp only [optBoundV] at hb
      cases hl with
      | none =>
        simp only [optBoundV, Option.some.injEq, Prod.mk.injEq] at hb
        obtain ⟨rfl, rfl, rfl⟩ := hb
        exact ⟨cap, rfl, by omega, fun x => x, Nat.le_refl _, .inl ⟨rfl, rfl, rfl⟩⟩
      | some hv =>
        simp only [optBoundV] at hb
        split at hb
        · cases hb
        · rename_i l0 hl0
          simp only [Option.some.injEq, Prod.mk.injEq] at hb
          obtain ⟨rfl, rfl, rfl⟩ := hb
          obtain ⟨e1, e2⟩ := r_bound (P := P) (code := .sliceB) hl0 hv w
          exact ⟨cap, by simp [Instr.sliceBounds, e1], e2, fun x => x, Nat.le_refl _, .inl ⟨rfl, rfl, rfl⟩⟩
    | some hv =>
      simp only [optBoundV] at hb
      split at hb
      · cases hb
      · rename_i h0 hh0
        obtain ⟨_, e2⟩ := r_bound (P := P) (code := .sliceB) hh0 hv w
        have e1 : ∀ code, (Instr.sliceBound _ cap code).run P w = .ok h0 w := fun code => (r_bound (P := P) (y := cap) (code := code) (by
          unfold boundV at hh0 ⊢
          cases hv <;> simp only [reduceCtorEq] at hh0 ⊢
          split at hh0
          · rename_i q0
            simp only [q0, if_true]
            split at hh0
            · rename_i q1
              simp only [Option.some.injEq] at hh0
              have := Nat.le_of_ble_eq_true q1
              rw [Nat.ble_eq.mpr (by omega : _ ≤ cap)]
              simp [hh0]
            · cases hh0
          · cases hh0) hv w).1
        cases hl with
        | none =>
          simp only [optBoundV, Option.some.injEq, Prod.mk.injEq] at hb
          obtain ⟨rfl, rfl, rfl⟩ := hb
          exact ⟨cap, by simp [Instr.sliceBounds, e1], by omega, fun _ => e2, Nat.le_refl _, .inl ⟨rfl, rfl, rfl⟩⟩
        | some hv2 =>
          simp only [optBoundV] at hb
          split at hb
          · cases hb
          · rename_i l0 hl0
            simp only [Option.some.injEq, Prod.mk.injEq] at hb
            obtain ⟨rfl, rfl, rfl⟩ := hb
            obtain ⟨e3, e4⟩ := r_bound (P := P) (code := .sliceB) hl0 hv2 w
            exact ⟨cap, by simp [Instr.sliceBounds, e1, e3], e4, fun _ => e2, Nat.le_refl _, .inl ⟨rfl, rfl, rfl⟩⟩
  | some hmv =>
    simp only [optBoundV] at hb
    split at hb
    · cases hb
    · rename_i m0 hm0
      obtain ⟨_, em2⟩ := r_bound (P := P) (code := .sliceB) hm0 hmv w
      have em1 : ∀ code, (Instr.sliceBound _ cap code).run P w = .ok m0 w := fun code => (r_bound (P := P) (y := cap) (code := code) (by
          unfold boundV at hm0 ⊢
          cases hmv <;> simp only [reduceCtorEq] at hm0 ⊢
          split at hm0
          · rename_i q0
            simp only [q0, if_true]
            split at hm0
            · rename_i q1
              simp only [Option.some.injEq] at hm0
              have := Nat.le_of_ble_eq_true q1
              rw [Nat.ble_eq.mpr (by omega : _ ≤ cap)]
              simp [hm0]
            · cases hm0
          · cases hm0) hmv w).1
      cases hh with
      | none => exact absurd (hno rfl) (by simp)
      | some hv =>
        simp only [optBoundV] at hb
        split at hb
        · cases hb
        · rename_i h0 hh0
          have e1 : ∀ code, (Instr.sliceBound _ m0 code).run P w = .ok h0 w := fun code => (r_bound (P := P) (code := code) hh0 hv w).1
          obtain ⟨_, e2⟩ := r_bound (P := P) (code := .sliceB) hh0 hv w
          cases hl with
          | none =>
            simp only [optBoundV, Option.some.injEq, Prod.mk.injEq] at hb
            obtain ⟨rfl, rfl, rfl⟩ := hb
            exact ⟨m0, by simp [Instr.sliceBounds, em1, e1], by omega, fun _ => by omega, em2, .inr rfl⟩
          | some hv2 =>
            simp only [optBoundV] at hb
            split at hb
            · cases hb
            · rename_i l0 hl0
              simp only [Option.some.injEq, Prod.mk.injEq] at hb
              obtain ⟨rfl, rfl, rfl⟩ := hb
              have e3 : ∀ code, (Instr.sliceBound _ h0 code).run P w = .ok l0 w := fun code => (r_bound (P := P) (code := code) hl0 hv2 w).1
              obtain ⟨_, e4⟩ := r_bound (P := P) (code := .sliceB) hl0 hv2 w
              exact ⟨m0, by simp [Instr.sliceBounds, em1, e1, e3], e4, fun _ => by omega, em2, .inr rfl⟩

theorem boundsV_le {d n : Nat} {lo hi mx : Option VV} {l h m : Nat} (hb : boundsV d n lo hi mx = some (l, h, m)) (hh : hi ≠ none) : h ≤ m := by
  unfold boundsV at hb
  split at hb
  · cases hb
  · split at hb
    · cases hb
    · rename_i q
      split at hb
      · cases hb
      · simp only [Option.some.injEq, Prod.mk.injEq] at hb
        obtain ⟨_, rfl, rfl⟩ := hb
        cases hi with
        | none => exact absurd rfl hh
        | some v =>
          simp only [optBoundV, boundV] at q
          split at q
          · split at q
            · split at q
              · rename_i q1
                simp only [Option.some.injEq] at q
                subst q
                exact Nat.le_of_ble_eq_true q1
              · cases q
            · cases q
          · cases q

theorem map_add (r o n : Nat) : Option.map (fun (x : Addr) => x.add n) (some ⟨r, o, none⟩) = some ⟨r, o + n, none⟩ := by simp [Addr.add_none]

theorem r_slice {t : TypeId} {x v : VV} {x' : Value} {lo hi mx : Option VV} {lo' hi' mx' : Option Value} (h : sliceV P t x lo hi mx = some v) (hx : VRel ρ x x') (hl : OptRel ρ lo lo') (hh : OptRel ρ hi hi') (hm : OptRel ρ mx mx') (w : World) :
    ∃ v', (Instr.sliceAt t x' lo' hi' mx').run P w = .ok v' w ∧ VRel ρ v v' := by
  unfold sliceV at h
  cases hu : P.underlying t with
  | none => simp [hu] at h
  | some d =>
    cases d <;> simp only [hu, reduceCtorEq] at h
    case array n e =>
      cases hx <;> try (simp only [reduceCtorEq] at h; done)
      rename_i id r b k off hρ
      cases hs : sizeV P e with
      | none => simp [hs] at h
      | some z =>
        simp only [hs] at h
        split at h
        · cases h
        · rename_i hno
          cases hb : boundsV n n lo hi mx with
          | none => simp [hb] at h
          | some q =>
            obtain ⟨l, h', m⟩ := q
            simp only [hb, Option.some.injEq] at h
            subst h
            obtain ⟨m', e1, e2, e3, e4, e5⟩ := r_bounds (P := P) (isSlice := false) (cap := n) hb hl hh hm (fun q => Decidable.byContradiction fun q2 => hno ⟨q, q2⟩) (Nat.le_refl _) w
            have em : m' = m := by rcases e5 with ⟨_, q1, q2⟩ | q <;> omega
            subst em
            by_cases hml : m' = l
            · exact ⟨.slice (some ⟨r, b + off, none⟩) (h' - l) (m' - l), by simp only [Instr.sliceAt, Sem.run_bind, r_underlying hu, Result.andThen_ok, Instr.sureAddr, Sem.run_pure, e1, r_sizeOf hs, if_pos hml], by rw [if_pos hml]; exact .slice _ _ hρ⟩
            · exact ⟨.slice (some ⟨r, b + off + l * z, none⟩) (h' - l) (m' - l), by simp only [Instr.sliceAt, Sem.run_bind, r_underlying hu, Result.andThen_ok, Instr.sureAddr, Sem.run_pure, e1, r_sizeOf hs, if_neg hml, Addr.add_none], by rw [if_neg hml, Nat.add_assoc]; exact .slice _ _ hρ⟩
    case string =>
      cases hx <;> try (simp only [reduceCtorEq] at h; done)
      rename_i s
      cases hm with
      | some _ => simp only [reduceCtorEq] at h
      | none =>
        simp only at h
        cases hb : boundsV s.data.toList.length s.data.toList.length lo hi none with
        | none => simp only [hb, reduceCtorEq] at h
        | some q =>
          obtain ⟨l, h', m⟩ := q
          simp only [hb, Option.some.injEq] at h
          subst h
          have hsz : s.data.toList.length = s.size := by simp
          rw [hsz] at hb
          obtain ⟨m', e1, e2, e3, e4, e5⟩ := r_bounds (P := P) (isSlice := false) (cap := s.size) hb hl hh .none (fun _ => rfl) (Nat.le_refl _) w
          refine ⟨.string (s.extract l h'), by simp [Instr.sliceAt, r_underlying hu, Instr.slice, e1], ?_⟩
          have := VRel.str (ρ := ρ) (s.extract l h')
          simpa [ByteArray.data_extract, Array.toList_extract, List.extract_eq_take_drop] using this
    case slice e =>
      cases hx <;> try (simp only [reduceCtorEq] at h; done)
      case nilSlice len c =>
        cases hs : sizeV P e with
        | none => simp [hs] at h
        | some z =>
          simp only [hs] at h
          split at h
          · cases h
          · rename_i hno
            cases hb : boundsV len c lo hi mx with
            | none => simp [hb] at h
            | some q =>
              obtain ⟨l, h', m⟩ := q
              simp only [hb, Option.some.injEq] at h
              subst h
              obtain ⟨m', e1, e2, e3, e4, e5⟩ := r_bounds (P := P) (isSlice := true) (cap := c) hb hl hh hm (fun q => Decidable.byContradiction fun q2 => hno ⟨q, q2⟩) (Nat.le_refl _) w
              have em : m' = m := by rcases e5 with ⟨_, q1, q2⟩ | q <;> omega
              subst em
              refine ⟨.slice none (h' - l) (m' - l), by simp [Instr.sliceAt, r_underlying hu, Instr.slice, e1, r_sizeOf hs], ?_⟩
              have : (if m' = l then (none : Option (Nat × Nat)) else Option.map (fun (x : Nat × Nat) => match x with | (id, off) => (id, off + l * z)) none) = none := by split <;> rfl
              rw [this]
              exact .nilSlice _ _
      case slice id r b n off len c hρ =>
        cases hs : sizeV P e with
        | none => simp [hs] at h
        | some z =>
          simp only [hs] at h
          split at h
          · cases h
          · rename_i hno
            cases hb : boundsV len c lo hi mx with
            | none => simp [hb] at h
            | some q =>
              obtain ⟨l, h', m⟩ := q
              simp only [hb, Option.some.injEq] at h
              subst h
              obtain ⟨m', e1, e2, e3, e4, e5⟩ := r_bounds (P := P) (isSlice := true) (cap := c) hb hl hh hm (fun q => Decidable.byContradiction fun q2 => hno ⟨q, q2⟩) (Nat.le_refl _) w
              have em : m' = m := by rcases e5 with ⟨_, q1, q2⟩ | q <;> omega
              subst em
              by_cases hml : m' = l
              · exact ⟨.slice (some ⟨r, b + off, none⟩) (h' - l) (m' - l), by simp only [Instr.sliceAt, Sem.run_bind, r_underlying hu, Result.andThen_ok, Instr.slice, Sem.run_pure, e1, r_sizeOf hs, if_pos hml], by rw [if_pos hml]; exact .slice _ _ hρ⟩
              · exact ⟨.slice (some ⟨r, b + off + l * z, none⟩) (h' - l) (m' - l), by simp only [Instr.sliceAt, Sem.run_bind, r_underlying hu, Result.andThen_ok, Instr.slice, Sem.run_pure, e1, r_sizeOf hs, if_neg hml, map_add], by rw [if_neg hml, Option.map_some, Nat.add_assoc]; exact .slice _ _ hρ⟩
      case rest id r b n off len c z' hρ hc hlc =>
        cases hs : sizeV P e with
        | none => simp [hs] at h
        | some z =>
          simp only [hs] at h
          by_cases hz : z' = z
          · subst hz
            simp only [if_true] at h
            cases hm with
            | none =>
              simp only at h
              cases hb : boundsV len len lo hi none with
              | none => simp [hb] at h
              | some q =>
                obtain ⟨l, h', m⟩ := q
                simp only [hb, Option.some.injEq] at h
                subst h
                obtain ⟨m', e1, e2, e3, e4, e5⟩ := r_bounds (P := P) (isSlice := true) (cap := c) hb hl hh .none (fun _ => rfl) hlc w
                have hm' : m' = c := by
                  rcases e5 with ⟨_, q1, q2⟩ | q
                  · exact q1
                  · subst q
                    -- the model's own maximum is the capacity
                    unfold boundsV at hb
                    simp only [optBoundV] at hb
                    have : (Instr.sliceBounds true len c _ _ none).run P w = .ok (l, h', m') w := e1
                    simp only [Instr.sliceBounds, Sem.run_bind, Sem.run_pure, Result.andThen_ok] at this
                    revert this
                    cases hh <;> cases hl <;> simp only [Sem.run_bind, Sem.run_pure, Result.andThen_ok, Option.isSome_none, Bool.false_eq_true, if_false]
                    · intro q; simp at q; omega
                    · intro q
                      cases hq : (Instr.sliceBound _ len .sliceB).run P w with
                      | ok a w2 => rw [hq] at q; simp at q; omega
                      | halt a w2 => rw [hq] at q; simp at q
                    · intro q
                      cases hq : (Instr.sliceBound _ c (if true = true then .sliceAcap else .sliceAlen)).run P w with
                      | ok a w2 => simp only [if_true] at hq q; rw [hq] at q; simp at q; omega
                      | halt a w2 => simp only [if_true] at hq q; rw [hq] at q; simp at q
                    · intro q
                      cases hq : (Instr.sliceBound _ c (if true = true then .sliceAcap else .sliceAlen)).run P w with
                      | ok a w2 =>
                        simp only [if_true] at hq q; rw [hq] at q; simp only [Result.andThen_ok] at q
                        cases hq2 : (Instr.sliceBound _ a .sliceB).run P w2 with
                        | ok a w3 => rw [hq2] at q; simp at q; omega
                        | halt a w3 => rw [hq2] at q; simp at q
                      | halt a w2 => simp only [if_true] at hq q; rw [hq] at q; simp at q
                subst hm'
                have e3' := e3 (Nat.le_refl _)
                by_cases hml : m' = l
                · have h0 : h' - l = 0 := by omega
                  refine ⟨.slice (some ⟨r, b + off, none⟩) (h' - l) (m' - l), by simp only [Instr.sliceAt, Sem.run_bind, r_underlying hu, Result.andThen_ok, Instr.slice, Sem.run_pure, e1, r_sizeOf hs, if_pos hml], ?_⟩
                  rw [h0, show m' - l = 0 by omega]
                  exact .restEnd _ _ hρ
                · refine ⟨.slice (some ⟨r, b + off + l * z', none⟩) (h' - l) (m' - l), by simp only [Instr.sliceAt, Sem.run_bind, r_underlying hu, Result.andThen_ok, Instr.slice, Sem.run_pure, e1, r_sizeOf hs, if_neg hml, map_add], ?_⟩
                  rw [Nat.add_assoc]
                  refine .rest _ _ _ hρ ?_ (by omega)
                  have : off + l * z' + (m' - l) * z' = off + m' * z' := by
                    rw [Nat.add_assoc, ← Nat.add_mul, show l + (m' - l) = m' by omega]
                  omega
            | some hmv =>
              simp only at h
              split at h
              · cases h
              · rename_i hno
                split at h
                · rename_i l h' m hb
                  obtain ⟨m', e1, e2, e3, e4, e5⟩ := r_bounds (P := P) (isSlice := true) (cap := c) hb hl hh (.some hmv) (fun q => absurd q hno) hlc w
                  have em : m' = m := e5.elim (fun q => nomatch q.1) (fun q => q)
                  subst em
                  have hhm : h' ≤ m' := boundsV_le hb hno
                  by_cases hml : m' = l
                  · simp only [hml, if_true, Option.some.injEq] at h
                    subst h
                    subst hml
                    refine ⟨.slice (some ⟨r, b + off, none⟩) (h' - m') (m' - m'), by simp only [Instr.sliceAt, Sem.run_bind, r_underlying hu, Result.andThen_ok, Instr.slice, Sem.run_pure, e1, r_sizeOf hs, if_true], ?_⟩
                    rw [show h' - m' = 0 by omega, Nat.sub_self]
                    exact .sliceEnd _ hρ
                  · simp only [hml, if_false, Option.some.injEq] at h
                    subst h
                    exact ⟨.slice (some ⟨r, b + off + l * z', none⟩) (h' - l) (m' - l), by simp only [Instr.sliceAt, Sem.run_bind, r_underlying hu, Result.andThen_ok, Instr.slice, Sem.run_pure, e1, r_sizeOf hs, if_neg hml, map_add], by rw [Nat.add_assoc]; exact .slice _ _ hρ⟩
                · cases h
          · simp [hz] at h
      case restEnd id r b n off off' z' hρ =>
        cases hs : sizeV P e with
        | none => simp [hs] at h
        | some z =>
          simp only [hs] at h
          by_cases hz : z' = z
          · subst hz
            simp only [if_true] at h
            cases hm with
            | none =>
              simp only at h
              cases hb : boundsV 0 0 lo hi none with
              | none => simp [hb] at h
              | some q =>
                obtain ⟨l, h', m⟩ := q
                simp only [hb, Option.some.injEq] at h
                subst h
                obtain ⟨m', e1, e2, e3, e4, e5⟩ := r_bounds (P := P) (isSlice := true) (cap := 0) hb hl hh .none (fun _ => rfl) (Nat.le_refl _) w
                have e3' := e3 (Nat.le_refl _)
                have em : m' = 0 := by rcases e5 with ⟨_, q1, q2⟩ | q <;> omega
                subst em
                have hl0 : l = 0 := by omega
                have hh0 : h' = 0 := by omega
                subst hl0
                subst hh0
                refine ⟨.slice (some ⟨r, off', none⟩) 0 0, by simp [Instr.sliceAt, r_underlying hu, Instr.slice, e1, r_sizeOf hs], ?_⟩
                exact .restEnd _ _ hρ
            | some hmv =>
              simp only at h
              split at h
              · cases h
              · rename_i hno
                split at h
                · rename_i l h' m hb
                  obtain ⟨m', e1, e2, e3, e4, e5⟩ := r_bounds (P := P) (isSlice := true) (cap := 0) hb hl hh (.some hmv) (fun q => absurd q hno) (Nat.le_refl _) w
                  have em : m' = m := e5.elim (fun q => nomatch q.1) (fun q => q)
                  subst em
                  have hhm : h' ≤ m' := boundsV_le hb hno
                  have hm0 : m' = 0 := by omega
                  have hh0 : h' = 0 := by omega
                  have hl0 : l = 0 := by omega
                  subst hm0
                  subst hh0
                  subst hl0
                  simp only [if_true, Option.some.injEq] at h
                  subst h
                  exact ⟨.slice (some ⟨r, off', none⟩) 0 0, by simp [Instr.sliceAt, r_underlying hu, Instr.slice, e1, r_sizeOf hs], .sliceEnd _ hρ⟩
                · cases h
          · simp [hz] at h
      case sliceEnd id r b n off off' hρ =>
        cases hs : sizeV P e with
        | none => simp [hs] at h
        | some z =>
          simp only [hs] at h
          split at h
          · cases h
          · rename_i hno
            cases hb : boundsV 0 0 lo hi mx with
            | none => simp [hb] at h
            | some q =>
              obtain ⟨l, h', m⟩ := q
              simp only [hb, Option.some.injEq] at h
              subst h
              obtain ⟨m', e1, e2, e3, e4, e5⟩ := r_bounds (P := P) (isSlice := true) (cap := 0) hb hl hh hm (fun q => Decidable.byContradiction fun q2 => hno ⟨q, q2⟩) (Nat.le_refl _) w
              have em : m' = m := by rcases e5 with ⟨_, q1, q2⟩ | q <;> omega
              subst em
              have e3' := e3 (Nat.le_refl _)
              have hm0 : m' = 0 := by omega
              have hh0 : h' = 0 := by omega
              have hl0 : l = 0 := by omega
              subst hm0
              subst hh0
              subst hl0
              exact ⟨.slice (some ⟨r, off', none⟩) 0 0, by simp [Instr.sliceAt, r_underlying hu, Instr.slice, e1, r_sizeOf hs], by simp only [if_true]; exact .sliceEnd _ hρ⟩

end Go.Vm

/-
  A virtual semantics of the model's code (12): the rest of the operations that leave the state as it is.
-/
namespace Go.Vm
variable {P : Program} {G : Nat} {ρ : Ren} {S : St} {w : World}

theorem r_extract {x v : VV} {x' : Value} {i : Nat} (h : extractV x i = some v) (hx : VRel ρ x x') (w : World) : ∃ v', (Instr.extract x' i).run P w = .ok v' w ∧ VRel ρ v v' := by
  unfold extractV at h
  cases hx <;> simp only [reduceCtorEq] at h
  rename_i cs cs' hc
  obtain ⟨v', e1, e2⟩ := hc.get h
  have e1' : cs'[i]? = some v' := by simpa using e1
  exact ⟨v', by simp [Instr.extract, e1'], e2⟩

theorem r_un {op : UnOp} {x v : VV} {x' : Value} (h : unV op x = some v) (hx : VRel ρ x x') (w : World) : ∃ v', (Op.unary op x').run P w = .ok v' w ∧ VRel ρ v v' := by
  cases hx <;> cases op <;> simp only [unV, reduceCtorEq, Option.some.injEq] at h
  case bool.not b => subst h; exact ⟨_, rfl, .bool _⟩
  case int.neg k n => simp only [intOpV, Option.some.injEq] at h; subst h; exact ⟨_, rfl, .int _ _⟩
  case int.xor k n => simp only [intOpV, Option.some.injEq] at h; subst h; exact ⟨_, rfl, .int _ _⟩

theorem isConst_of {x : Operand} (h : isConstO x = true) : ∃ v, x = .const v := by
  cases x with
  | const v => exact ⟨v, rfl⟩
  | tmp t => cases h
  | global g => cases h
  | func f => cases h

theorem r_eqlNeq (hS : Sim G ρ S w) {op : BinOp} {t : TypeId} {a b v : VV} {a' b' : Value} (ha : VRel ρ a a') (hb : VRel ρ b b')
    (hl : (binOp .eql t a' b').run P w = ((Op.equal t a' b').run P w).andThen fun r w' => .ok (.bool r) w')
    (hn : (binOp .neq t a' b').run P w = ((Op.equal t a' b').run P w).andThen fun r w' => .ok (.bool (!r)) w')
    (h : (match op with
      | .eql => match eqV P S eqDepth t a b with
        | some r => some (.bool r)
        | none => none
      | .neq => match eqV P S eqDepth t a b with
        | some r => some (.bool (!r))
        | none => none
      | _ => none) = some v) : (op = .eql ∨ op = .neq) ∧ ∃ v', (binOp op t a' b').run P w = .ok v' w ∧ VRel ρ v v' := by
  cases op <;> simp only [reduceCtorEq] at h
  case eql =>
    refine ⟨.inl rfl, ?_⟩
    cases he : eqV P S eqDepth t a b with
    | none => simp [he] at h
    | some r =>
      simp only [he, Option.some.injEq] at h
      subst h
      have := r_eqV hS eqDepth t a b r a' b' he ha hb
      exact ⟨.bool r, by rw [hl, Op.equal]; rw [show Op.maxDepth = eqDepth from rfl, this]; rfl, .bool r⟩
  case neq =>
    refine ⟨.inr rfl, ?_⟩
    cases he : eqV P S eqDepth t a b with
    | none => simp [he] at h
    | some r =>
      simp only [he, Option.some.injEq] at h
      subst h
      have := r_eqV hS eqDepth t a b r a' b' he ha hb
      exact ⟨.bool (!r), by rw [hn, Op.equal]; rw [show Op.maxDepth = eqDepth from rfl, this]; rfl, .bool (!r)⟩

set_option maxHeartbeats 4000000 in
theorem r_bin (hS : Sim G ρ S w) {op : BinOp} {t : TypeId} {x y : Operand} {a b v : VV} {a' b' : Value} (h : binV P S op t x y a b = some v) (ha : VRel ρ a a') (hb : VRel ρ b b') :
    ∃ v', (do eqGuard op t x y a' b'; binOp op t a' b' : Sem Value).run P w = .ok v' w ∧ VRel ρ v v' := by
  have hb0 := hb
  have ha0 := ha
  cases ha <;> cases hb <;> simp only [binV, reduceCtorEq] at h
  case int.int k m k' n =>
    have hg : (eqGuard op t x y (.int k m) (.int k' n)).run P w = .ok () w := by cases op <;> simp [eqGuard]
    cases op
    case shl => obtain ⟨v', e1, e2⟩ := r_shift (P := P) (k' := k') t h w; exact ⟨v', by simp only [Sem.run_bind, hg, Result.andThen_ok, e1], e2 ρ⟩
    case shr => obtain ⟨v', e1, e2⟩ := r_shift (P := P) (k' := k') t h w; exact ⟨v', by simp only [Sem.run_bind, hg, Result.andThen_ok, e1], e2 ρ⟩
    all_goals
      simp only at h
      split at h
      · rename_i hk
        subst hk
        obtain ⟨v', e1, e2⟩ := r_intOp (P := P) t h w
        exact ⟨v', by simp only [Sem.run_bind, hg, Result.andThen_ok, e1], e2 ρ⟩
      · cases h
  case str.str s u =>
    have hg : (eqGuard op t x y (.string s) (.string u)).run P w = .ok () w := by cases op <;> simp [eqGuard]
    obtain ⟨v', e1, e2⟩ := r_strOp (P := P) t h w
    exact ⟨v', by simp only [Sem.run_bind, hg, Result.andThen_ok, e1], e2 ρ⟩
  case nilIface.nilIface =>
    split at h
    · rename_i hc
      obtain ⟨_, v', e1, e2⟩ := r_eqlNeq hS ha0 hb0 (by simp only [binOp, Sem.run_bind, Sem.run_pure]) (by simp only [binOp, Sem.run_bind, Sem.run_pure]) h
      have hg : (eqGuard op t x y .nilIface .nilIface).run P w = .ok () w := by
        rw [Bool.or_eq_true] at hc
        rcases hc with q | q
        · obtain ⟨u, rfl⟩ := isConst_of q
          cases op <;> simp [eqGuard]
        · obtain ⟨u, rfl⟩ := isConst_of q
          cases op <;> simp [eqGuard]
      exact ⟨v', by simp only [Sem.run_bind, hg, Result.andThen_ok, e1], e2⟩
    · cases h
  case agg.agg cs cs' hcs ds ds' hds =>
    split at h
    · cases h
    · rename_i hc
      obtain ⟨_, v', e1, e2⟩ := r_eqlNeq hS ha0 hb0 (by simp only [binOp, Sem.run_bind, Sem.run_pure]) (by simp only [binOp, Sem.run_bind, Sem.run_pure]) h
      have hg := run_eqGuard_agg (P := P) w op t x y cs' ds' (by simpa using hc)
      exact ⟨v', by simp only [Sem.run_bind, hg, Result.andThen_ok, e1], e2⟩
  all_goals
    obtain ⟨hop, v', e1, e2⟩ := r_eqlNeq hS ha0 hb0 (by simp only [binOp, Sem.run_bind, Sem.run_pure]) (by simp only [binOp, Sem.run_bind, Sem.run_pure]) h
    refine ⟨v', ?_, e2⟩
    rcases hop with rfl | rfl <;> simp only [eqGuard, Sem.run_bind] <;> first | exact e1 | (simp; exact e1)

theorem r_makeInterface {t : TypeId} {x v : VV} {x' : Value} (h : makeInterfaceV P t x = some v) (hx : VRel ρ x x') (w : World) : ∃ v', (Instr.makeInterface t x').run P w = .ok v' w ∧ VRel ρ v v' := by
  unfold makeInterfaceV at h
  cases hu : P.underlying t with
  | none => simp [hu] at h
  | some d =>
    cases d <;> simp only [hu, Option.some.injEq, reduceCtorEq] at h <;> (subst h; exact ⟨.iface t x', by simp [Instr.makeInterface, r_underlying hu], .iface t hx⟩)

theorem r_len (hS : Sim G ρ S w) {ts : List TypeId} {args : List VV} {args' : Array Value} {v : VV} (t : TypeId) (h : lenV P S ts args = some v) (ha : VRels ρ args args'.toList) : ∃ v', (Builtin.len_ ts.toArray t args').run P w = .ok v' w ∧ VRel ρ v v' := by
  unfold lenV at h
  split at h
  · rename_i t0 x
    obtain ⟨args'⟩ := args'
    change VRels ρ _ args' at ha
    cases ha with
    | cons hx ht =>
      cases ht
      cases hu : P.underlying t0 with
      | none => simp [hu] at h
      | some d =>
        cases d <;> simp only [hu, reduceCtorEq] at h
        case string =>
          cases hx <;> try (simp only [reduceCtorEq] at h; done)
          simp only [Option.some.injEq] at h
          subst h
          exact ⟨_, by simp [Builtin.len_, r_underlying hu, goInt], .int _ _⟩
        case array n e =>
          simp only [Option.some.injEq] at h
          subst h
          exact ⟨goInt n, by simp [Builtin.len_, r_underlying hu], .int _ _⟩
        case slice e =>
          cases hx <;> try (simp only [reduceCtorEq] at h; done)
          all_goals
            simp only [Option.some.injEq] at h
            subst h
            exact ⟨goInt _, by simp [Builtin.len_, r_underlying hu], .int _ _⟩
        case map k e =>
          cases hx <;> try (simp [mapOfV] at h; done)
          case nilMap =>
            simp only [Option.some.injEq] at h
            subst h
            exact ⟨goInt 0, by simp [Builtin.len_, r_underlying hu], .int _ _⟩
          case map id r b n hρ =>
            simp only [mapOfV] at h
            cases ho : S.h.get id with
            | none => simp [ho] at h
            | some o =>
              cases o <;> simp only [ho, reduceCtorEq] at h
              rename_i es clock
              simp only [Option.some.injEq] at h
              subst h
              obtain ⟨r', b', n', o', h1, h2, h3⟩ := hS.obj id _ ho
              rw [hρ] at h1
              cases h1
              cases h3 with
              | map he =>
                rename_i es'
                have hl : es'.size = es.length := by
                  have : ∀ {l : List (VV × VV × Nat)} {l' : List MapEntry}, ERels ρ l l' → l'.length = l.length := by
                    intro l l' hh
                    induction hh with
                    | nil => rfl
                    | cons _ _ _ ih => simp [ih]
                  simpa using this he
                exact ⟨goInt es'.size, by simp [Builtin.len_, r_underlying hu, getObj, Sem.run, h2], by rw [hl]; exact .int _ _⟩
  · cases h

theorem r_cap {ts : List TypeId} {args : List VV} {args' : Array Value} {v : VV} (t : TypeId) (h : capV P ts args = some v) (ha : VRels ρ args args'.toList) (w : World) : ∃ v', (Builtin.cap_ ts.toArray t args').run P w = .ok v' w ∧ VRel ρ v v' := by
  unfold capV at h
  split at h
  · rename_i t0 x
    obtain ⟨args'⟩ := args'
    change VRels ρ _ args' at ha
    cases ha with
    | cons hx ht =>
      cases ht
      cases hu : P.underlying t0 with
      | none => simp [hu] at h
      | some d =>
        cases d <;> simp only [hu, reduceCtorEq] at h
        case array n e =>
          simp only [Option.some.injEq] at h
          subst h
          exact ⟨goInt n, by simp [Builtin.cap_, r_underlying hu], .int _ _⟩
        case slice e =>
          cases hx <;> try (simp only [reduceCtorEq] at h; done)
          all_goals
            simp only [Option.some.injEq] at h
            subst h
            exact ⟨goInt _, by simp [Builtin.cap_, r_underlying hu], .int _ _⟩
  · cases h

theorem r_minMax (mx : Bool) : ∀ {l : List VV} {l' : List Value} {x v : VV} {x' : Value}, minMaxV mx x l = some v → VRel ρ x x' → VRels ρ l l' → ∀ w, ∃ v',
    (if mx then l'.foldlM Builtin.max2 x' else l'.foldlM Builtin.min2 x').run P w = .ok v' w ∧ VRel ρ v v' := by
  intro l
  induction l with
  | nil =>
    intro l' x v x' h hx hl w
    cases hl
    cases hx <;> simp only [minMaxV, reduceCtorEq, Option.some.injEq] at h
    subst h
    exact ⟨.int _ _, by cases mx <;> rfl, .int _ _⟩
  | cons y l ih =>
    intro l' x v x' h hx hl w
    cases hl with
    | cons hy ht =>
      cases hx <;> try (simp [minMaxV] at h; done)
      cases hy <;> try (simp [minMaxV] at h; done)
      simp only [minMaxV] at h
      obtain ⟨v', e1, e2⟩ := ih h (.int _ _) ht w
      refine ⟨v', ?_, e2⟩
      cases mx
      · simp only [Bool.false_eq_true, if_false] at e1 ⊢
        simpa [List.foldlM_cons, Builtin.min2] using e1
      · simp only [if_true] at e1 ⊢
        simpa [List.foldlM_cons, Builtin.max2] using e1

end Go.Vm

/-
  A virtual semantics of the model's code (13): maps, iterators.
-/
namespace Go.Vm
variable {P : Program} {G : Nat} {ρ : Ren} {S : St} {w : World}

theorem ERels.length : ∀ {l : List (VV × VV × Nat)} {l' : List MapEntry}, ERels ρ l l' → l'.length = l.length
  | _, _, .nil => rfl
  | _, _, .cons _ _ t => by simp [ERels.length t]

theorem ERels.get : ∀ {l : List (VV × VV × Nat)} {l' : List MapEntry}, ERels ρ l l' → ∀ {i : Nat} {k v : VV} {b : Nat}, l[i]? = some (k, v, b) → ∃ e, l'[i]? = some e ∧ VRel ρ k e.key ∧ VRel ρ v e.val ∧ e.born = b
  | _, _, .nil, i, _, _, _, h => by simp at h
  | _, _, .cons hk hv t, 0, k, v, b, h => by simp at h; obtain ⟨rfl, rfl, rfl⟩ := h; exact ⟨_, rfl, hk, hv, rfl⟩
  | _, _, .cons hk hv t, i + 1, k, v, b, h => by simp at h; simpa using ERels.get t h

theorem keyPlain_run {t : TypeId} {v : Value} (h : keyPlain P t = true) (empty : Bool) (n : Nat) (w : World) : (Instr.checkKey empty (n + 1) t v).run P w = .ok () w := by
  unfold keyPlain at h
  cases hu : P.underlying t with
  | none => simp [hu] at h
  | some d => cases d <;> simp [hu] at h <;> simp [Instr.checkKey, r_underlying hu]

theorem keyFields_run {cs : List VV} {cs' : Array Value} (hc : VRels ρ cs cs'.toList) (empty : Bool) (n : Nat) : ∀ {fs : List Field}, keyFields P cs.length fs = true → ∀ w,
    (forIn (m := Sem) fs PUnit.unit fun f _ =>
      if f.name ≠ "_" then do
        let x ← part f.type cs' f.offset
        Instr.checkKey empty (n + 1) f.type x
        pure (ForInStep.yield PUnit.unit)
      else pure (ForInStep.yield PUnit.unit)).run P w = .ok PUnit.unit w := by
  intro fs
  induction fs with
  | nil => intro _ w; rfl
  | cons f fs ih =>
    intro h w
    simp only [keyFields, Bool.and_eq_true] at h
    obtain ⟨⟨⟨h1, h2⟩, h3⟩, h4⟩ := h
    have ha : isAggV P f.type = some false := by
      cases hq : isAggV P f.type with
      | none => simp [hq] at h2
      | some b => cases b <;> simp_all
    have hlt : f.offset < cs'.size := by
      have := hc.length
      simp only [Array.length_toList] at this
      rw [this]
      simpa [Nat.blt_eq] using h3
    have hp : (part f.type cs' f.offset).run P w = .ok cs'[f.offset] w := by
      simp [part, r_isAgg ha, hlt]
    simp only [List.forIn_cons, Sem.run_bind, Sem.run_ite]
    split
    · simp only [Sem.run_bind, hp, Result.andThen_ok, keyPlain_run h1, Sem.run_pure]
      exact ih h4 w
    · simp only [Sem.run_pure, Result.andThen_ok]
      exact ih h4 w

theorem keyOk_run' {t : TypeId} {k : VV} {k' : Value} (h : keyOk P t k = true) (hk : VRel ρ k k') (empty : Bool) (n : Nat) (w : World) : (Instr.checkKey empty (n + 2) t k').run P w = .ok () w := by
  unfold keyOk at h
  cases hu : P.underlying t with
  | none => simp [hu, keyPlain] at h
  | some d =>
    cases d
    case struct fs =>
      simp only [hu] at h
      cases hk <;> try (simp only [Bool.false_eq_true] at h; done)
      rename_i cs cs' hc
      have := keyFields_run hc empty n h w
      rw [Instr.checkKey]
      simp only [Sem.run_bind, r_underlying hu, Result.andThen_ok]
      rw [← Array.forIn_toList, this]
      rfl
    all_goals
      simp only [hu] at h
      exact keyPlain_run h empty (n + 1) w

theorem keyOk_run {t : TypeId} {k : VV} {k' : Value} (h : keyOk P t k = true) (hk : VRel ρ k k') (empty : Bool) (w : World) : (Instr.checkKey empty 10000 t k').run P w = .ok () w :=
  keyOk_run' h hk empty 9998 w

theorem equal_now {t : TypeId} {d : TypeDesc} {k k2 : Value} {r : Bool} (hu : P.underlying t = some d) (h : Instr.sameNow d k k2 = some r) (n : Nat) (w : World) : (Op.equalIn (n + 1) t k k2).run P w = .ok r w := by
  cases d <;> cases k <;> cases k2 <;> simp only [Instr.sameNow, reduceCtorEq] at h
  case int.int.int =>
    split at h
    · rename_i hk
      simp only [Option.some.injEq] at h
      subst h
      simp [Op.equalIn, r_underlying hu, hk]
    · cases h
  case string.string.string =>
    simp only [Option.some.injEq] at h
    subst h
    simp [Op.equalIn, r_underlying hu]
  case bool.bool.bool =>
    simp only [Option.some.injEq] at h
    subst h
    simp [Op.equalIn, r_underlying hu]

theorem findV_asking (hS : Sim G ρ S w) {t : TypeId} {k : VV} {k' : Value} (hk : VRel ρ k k') : ∀ {es : List (VV × VV × Nat)} {es' : List MapEntry} {i : Nat} {r : Option (Nat × VV × Nat)}, findV P S t k es i = some r → ERels ρ es es' →
    (match r with
     | none => (Instr.findAsking t k' es' i).run P w = .ok none w
     | some (j, v, b) => ∃ v', (Instr.findAsking t k' es' i).run P w = .ok (some (j, v')) w ∧ VRel ρ v v' ∧ i ≤ j ∧ (∃ e, es'[j - i]? = some e ∧ e.val = v' ∧ e.born = b) ∧ ∃ kk, es[j - i]? = some (kk, v, b)) := by
  intro es
  induction es with
  | nil =>
    intro es' i r h he
    cases he
    simp only [findV, Option.some.injEq] at h
    subst h
    rfl
  | cons x es ih =>
    intro es' i r h he
    cases he with
    | cons hkk hvv ht =>
      rename_i kk vv kk' vv' bb l'
      simp only [findV] at h
      cases hq : eqV P S eqDepth t k kk with
      | none => simp [hq] at h
      | some q =>
        have he := r_eqV hS eqDepth t k kk q k' kk' hq hk hkk
        cases q with
        | true =>
          simp only [hq, Option.some.injEq] at h
          subst h
          refine ⟨vv', ?_, hvv, Nat.le_refl _, ?_, ?_⟩
          · simp only [Instr.findAsking, Op.equal, Sem.run_bind]
            rw [show Op.maxDepth = eqDepth from rfl, he]
            rfl
          · exact ⟨_, by rw [Nat.sub_self]; rfl, rfl, rfl⟩
          · exact ⟨kk, by rw [Nat.sub_self]; rfl⟩
        | false =>
          simp only [hq] at h
          have := ih h ht
          have e1 : (Instr.findAsking t k' ({ key := kk', val := vv', born := bb } :: l') i).run P w = (Instr.findAsking t k' l' (i + 1)).run P w := by
            simp only [Instr.findAsking, Op.equal, Sem.run_bind]
            rw [show Op.maxDepth = eqDepth from rfl, he]
            rfl
          cases r with
          | none => simpa only [e1] using this
          | some p =>
            obtain ⟨j, v, b⟩ := p
            obtain ⟨v', a1, a2, a3, ⟨e, a4, a5, a6⟩, kq, a7⟩ := this
            refine ⟨v', by rw [e1]; exact a1, a2, by omega, ⟨e, ?_, a5, a6⟩, kq, ?_⟩
            · rw [show j - i = (j - (i + 1)) + 1 by omega]; simpa using a4
            · rw [show j - i = (j - (i + 1)) + 1 by omega]; simpa using a7

/-- the quick look comes to what the asking one does, where it comes to anything -/
theorem findNow_asking {t : TypeId} {d : TypeDesc} (hu : P.underlying t = some d) {k : Value} (w : World) : ∀ {es : List MapEntry} {i : Nat} {r : Option (Nat × Value)}, Instr.findNow d k es i = some r → (Instr.findAsking t k es i).run P w = .ok r w := by
  intro es
  induction es with
  | nil => intro i r h; simp only [Instr.findNow, Option.some.injEq] at h; subst h; rfl
  | cons e es ih =>
    intro i r h
    simp only [Instr.findNow] at h
    cases hs : Instr.sameNow d k e.key with
    | none => simp [hs] at h
    | some q =>
      have he := equal_now hu hs 9999 w
      cases q with
      | true =>
        simp only [hs, Option.some.injEq] at h
        subst h
        simp only [Instr.findAsking, Op.equal, Sem.run_bind]
        rw [show Op.maxDepth = 9999 + 1 from rfl, he]
        rfl
      | false =>
        simp only [hs] at h
        simp only [Instr.findAsking, Op.equal, Sem.run_bind]
        rw [show Op.maxDepth = 9999 + 1 from rfl, he]
        simpa using ih h

theorem r_findKey (hS : Sim G ρ S w) {t : TypeId} {k : VV} {k' : Value} (hk : VRel ρ k k') {es : List (VV × VV × Nat)} {es' : List MapEntry} {r : Option (Nat × VV × Nat)} (h : findV P S t k es 0 = some r) (he : ERels ρ es es')
    (hu : ∃ d, P.underlying t = some d) :
    (match r with
     | none => (Instr.findKey t k' es').run P w = .ok none w
     | some (j, v, b) => ∃ v', (Instr.findKey t k' es').run P w = .ok (some (j, v')) w ∧ VRel ρ v v' ∧ (∃ e, es'[j]? = some e ∧ e.val = v' ∧ e.born = b) ∧ ∃ kk, es[j]? = some (kk, v, b)) := by
  obtain ⟨d, hd⟩ := hu
  have ha := findV_asking hS hk h he
  have e0 : ∀ x, (Instr.findAsking t k' es' 0).run P w = .ok x w → (Instr.findKey t k' es').run P w = .ok x w := by
    intro x hx
    simp only [Instr.findKey, Sem.run_bind, r_underlying hd, Result.andThen_ok]
    cases hn : Instr.findNow d k' es' 0 with
    | none => exact hx
    | some q =>
      have := findNow_asking hd w hn
      rw [hx] at this
      simp only [Result.ok.injEq, and_true] at this
      subst this
      rfl
  cases r with
  | none => exact e0 _ ha
  | some p =>
    obtain ⟨j, v, b⟩ := p
    obtain ⟨v', a1, a2, _, ⟨e, a4, a5, a6⟩, kk, a7⟩ := ha
    exact ⟨v', e0 _ a1, a2, ⟨e, by simpa using a4, a5, a6⟩, kk, by simpa using a7⟩

theorem keyOk_und {t : TypeId} {k : VV} (h : keyOk P t k = true) : ∃ d, P.underlying t = some d := by
  unfold keyOk keyPlain at h
  cases hu : P.underlying t with
  | none => simp [hu] at h
  | some d => exact ⟨d, rfl⟩

theorem Sim.map (hS : Sim G ρ S w) {x : VV} {x' : Value} {id : Nat} {es : List (VV × VV × Nat)} {c : Nat} (h : mapOfV S x = some (id, es, c)) (hx : VRel ρ x x') :
    ∃ r b n es', x = .map (some id) ∧ x' = .map (some r) ∧ ρ id = some (r, b, n) ∧ S.h.get id = some (.map es c) ∧ w.heap[r]? = some (.map es' c) ∧ ERels ρ es es'.toList := by
  unfold mapOfV at h
  cases hx <;> simp only [reduceCtorEq] at h
  rename_i id' r b n hρ
  cases ho : S.h.get id' with
  | none => simp [ho] at h
  | some o =>
    cases o <;> simp only [ho, reduceCtorEq] at h
    simp only [Option.some.injEq, Prod.mk.injEq] at h
    obtain ⟨rfl, rfl, rfl⟩ := h
    obtain ⟨r', b', n', o', h1, h2, h3⟩ := hS.obj _ _ ho
    rw [hρ] at h1
    cases h1
    cases h3 with
    | map he => exact ⟨r, b, n, _, rfl, rfl, hρ, ho, h2, he⟩

theorem r_lookup (hS : Sim G ρ S w) {t : TypeId} {x k v : VV} {x' k' : Value} {ok : Bool} (h : lookupV P S t x k ok = some v) (hx : VRel ρ x x') (hk : VRel ρ k k') : ∃ v', (Instr.lookup t x' k' ok).run P w = .ok v' w ∧ VRel ρ v v' := by
  unfold lookupV at h
  cases hu : P.underlying t with
  | none => simp [hu] at h
  | some d =>
    cases d <;> simp only [hu, reduceCtorEq] at h
    rename_i kt et
    cases hko : keyOk P kt k with
    | false => simp [hko] at h
    | true =>
      simp only [hko] at h
      -- the entries
      have hes : ∀ es, (match x with | .map none => some [] | _ => match mapOfV S x with | some (_, es, _) => some es | none => none) = some es →
          ∃ es' : Array MapEntry, ERels ρ es es'.toList ∧ ((x' = .map none ∧ es' = #[]) ∨ ∃ r c, x' = .map (some r) ∧ w.heap[r]? = some (.map es' c)) := by
        intro es he
        cases hx <;> try (simp [mapOfV] at he; done)
        case nilMap =>
          simp only [Option.some.injEq] at he
          subst he
          exact ⟨#[], .nil, .inl ⟨rfl, rfl⟩⟩
        case map id r b n hρ =>
          simp only at he
          cases hm : mapOfV S (.map (some id)) with
          | none => simp [hm] at he
          | some q =>
            obtain ⟨id', es0, c⟩ := q
            simp only [hm, Option.some.injEq] at he
            subst he
            obtain ⟨r', b', n', es', e1, e2, e3, e4, e5, e6⟩ := hS.map hm (.map hρ)
            cases e1
            cases e2
            exact ⟨es', e6, .inr ⟨r, c, rfl, e5⟩⟩
      split at h
      · cases h
      · rename_i es hes0
        obtain ⟨es', he, hx'⟩ := hes es hes0
        cases hf : findV P S kt k es 0 with
        | none => simp [hf] at h
        | some r =>
          have hfk := r_findKey hS hk hf he (keyOk_und hko)
          have hck := fun e => keyOk_run (P := P) hko hk e w
          cases r with
          | none =>
            simp only [hf] at h
            cases hz : zeroV P et with
            | none => simp [hz] at h
            | some z =>
              obtain ⟨z', rz, ez⟩ := r_zeroValue hz
              have hzr : VRel ρ z z' := by rw [ez]; exact ofValue_rel ρ z'
              simp only [hz, Option.some.injEq] at h
              subst h
              refine ⟨if ok then .tuple #[z', .bool false] else z', ?_, ?_⟩
              · rcases hx' with ⟨rfl, rfl⟩ | ⟨r, c, rfl, hr⟩
                · simp only [Instr.lookup, Sem.run_bind, r_underlying hu, Result.andThen_ok, Sem.run_pure, hck, hfk, rz]
                · simp only [Instr.lookup, Sem.run_bind, r_underlying hu, Result.andThen_ok, getObj, Sem.run, hr, Sem.run_pure, hck, hfk, rz]
              · cases ok
                · exact hzr
                · exact .tuple (.cons hzr (.cons (.bool _) .nil))
          | some p =>
            obtain ⟨j, vv, b⟩ := p
            simp only [hf, Option.some.injEq] at h
            subst h
            obtain ⟨v', a1, a2, _, _⟩ := hfk
            refine ⟨if ok then .tuple #[v', .bool true] else v', ?_, ?_⟩
            · rcases hx' with ⟨rfl, rfl⟩ | ⟨r, c, rfl, hr⟩
              · simp only [Instr.lookup, Sem.run_bind, r_underlying hu, Result.andThen_ok, Sem.run_pure, hck, a1]
              · simp only [Instr.lookup, Sem.run_bind, r_underlying hu, Result.andThen_ok, getObj, Sem.run, hr, Sem.run_pure, hck, a1]
            · cases ok
              · exact a2
              · exact .tuple (.cons a2 (.cons (.bool _) .nil))

end Go.Vm
