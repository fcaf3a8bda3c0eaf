/-
  A virtual semantics of the model's code (10): operations that leave the state as it is.
-/
import Derived.Test.YtgdpedfahfmjeaaGreatDoorVmI
namespace Go.Vm
variable {P : Program} {G : Nat} {ρ : Ren} {S : St} {w : World}

theorem putRow_toList (a : Array Value) (off : Nat) (l : List Value) (h : off + l.length ≤ a.size) : (putRow a off l).toList = a.toList.take off ++ (l ++ a.toList.drop (off + l.length)) := by
  apply List.ext_getElem?
  intro j
  have := putRow_get l a off h j
  rw [Array.getElem?_toList, this]
  by_cases h1 : j < off
  · rw [if_neg (by omega), List.getElem?_append_left (by simp; omega), List.getElem?_take, if_pos h1, Array.getElem?_toList]
  · by_cases h2 : j < off + l.length
    · rw [if_pos (by omega), List.getElem?_append_right (by simp; omega), List.getElem?_append_left (by simp; omega)]
      simp [show min off a.size = off by omega]
    · rw [if_neg (by omega), List.getElem?_append_right (by simp; omega), List.getElem?_append_right (by simp; omega), List.getElem?_drop, Array.getElem?_toList]
      congr 1
      simp
      omega

theorem foldl_putRow (off : Nat) : ∀ (l : List Value) (i : Nat) (a : Array Value), (l.zipIdx i).foldl (fun cs (x : Value × Nat) => cs.setIfInBounds (off + x.2) x.1) a = putRow a (off + i) l := by
  intro l
  induction l with
  | nil => intro i a; rfl
  | cons v l ih => intro i a; simp only [List.zipIdx_cons, List.foldl_cons, putRow, ih]; rfl

theorem cellsV_rel {v : VV} {v' : Value} {cs : List VV} (h : cellsV v = some cs) (hv : VRel ρ v v') : VRels ρ cs v'.cells.toList := by
  cases hv <;> simp only [cellsV, Option.some.injEq, reduceCtorEq] at h
  case agg hh => subst h; exact hh
  all_goals (subst h; exact .cons (by first | exact .bool _ | exact .int _ _ | exact .str _ | exact .nilPtr | exact .ptr ‹_› | exact .nilSlice _ _ | exact .slice _ _ ‹_› | exact .rest _ _ _ ‹_› ‹_› ‹_› | exact .restEnd _ _ ‹_› | exact .sliceEnd _ ‹_› | exact .nilMap | exact .map ‹_› | exact .func ‹_› ‹_› ‹_› | exact .nilFunc | exact .iface _ ‹_› | exact .nilIface | exact .tuple ‹_›) .nil)

inductive PRels (ρ : Ren) : List (Nat × VV) → List (Nat × Value) → Prop where
  | nil : PRels ρ [] []
  | cons {i : Nat} {v : VV} {v' : Value} {l : List (Nat × VV)} {l' : List (Nat × Value)} (h : VRel ρ v v') (t : PRels ρ l l') : PRels ρ ((i, v) :: l) ((i, v') :: l')

theorem PRels.map {e : Operand → VV} {e' : Operand → Value} (he : ∀ x, VRel ρ (e x) (e' x)) : ∀ l : List (Nat × Operand), PRels ρ (l.map fun (i, x) => (i, e x)) (l.map fun (i, x) => (i, e' x))
  | [] => .nil
  | (i, x) :: l => .cons (he x) (PRels.map he l)

theorem fillV_rel {place place' : Nat → Option (Nat × Nat)} (hpl : ∀ i, place i = place' i) : ∀ {parts : List (Nat × VV)} {parts' : List (Nat × Value)} {cells : List VV} {cells' : Array Value} {r : List VV},
    fillV place cells parts = some r → PRels ρ parts parts' → VRels ρ cells cells'.toList → ∃ r', Instr.fill place' cells' parts' = some r' ∧ VRels ρ r r'.toList := by
  intro parts
  induction parts with
  | nil =>
    intro parts' cells cells' r h hp hc
    cases hp
    simp only [fillV, Option.some.injEq] at h
    subst h
    exact ⟨cells', rfl, hc⟩
  | cons p parts ih =>
    intro parts' cells cells' r h hp hc
    cases hp with
    | cons hv ht =>
      rename_i i v v' l'
      simp only [fillV] at h
      cases hpi : place i with
      | none => simp [hpi] at h
      | some q =>
        obtain ⟨off, size⟩ := q
        cases hcv : cellsV v with
        | none => simp [hpi, hcv] at h
        | some cs =>
          simp only [hpi, hcv] at h
          split at h
          · rename_i hx
            obtain ⟨h1, h2⟩ := hx
            have hcs := cellsV_rel hcv hv
            have l1 := hcs.length
            have l2 := hc.length
            simp only [Array.length_toList] at l1 l2
            have hf := foldl_putRow off v'.cells.toList 0 cells'
            simp only [Nat.add_zero] at hf
            have hr := ih (cells' := putRow cells' off v'.cells.toList) h ht (by
              rw [putRow_toList _ _ _ (by simp; omega)]
              refine (hc.take off).append (hcs.append ?_)
              have := hc.drop (off + cs.length)
              rw [show v'.cells.toList.length = cs.length by simpa using l1]
              exact this)
            obtain ⟨r', e1, e2⟩ := hr
            refine ⟨r', ?_, e2⟩
            simp only [Instr.fill, ← hpl, hpi]
            rw [if_neg (by simp; omega)]
            rw [← e1, ← hf]
            congr 1
            rw [← Array.foldl_toList, Array.toList_zipIdx]
          · cases h

theorem placesV_run : ∀ {l : List Field} {ps : List (Nat × Nat)}, placesV P l = some ps → ∀ w, (l.mapM (m := Sem) fun f => do pure (f.offset, ← sizeOf f.type)).run P w = .ok ps w := by
  intro l
  induction l with
  | nil => intro ps h w; simp only [placesV, Option.some.injEq] at h; subst h; rfl
  | cons f l ih =>
    intro ps h w
    simp only [placesV] at h
    cases hs : sizeV P f.type with
    | none => simp [hs] at h
    | some n =>
      cases hp : placesV P l with
      | none => simp [hs, hp] at h
      | some q =>
        simp only [hs, hp, Option.some.injEq] at h
        subst h
        simp only [List.mapM_cons, Sem.run_bind, r_sizeOf hs, Result.andThen_ok, Sem.run_pure, ih hp]

theorem r_build {t : TypeId} {parts : List (Nat × VV)} {parts' : Array (Nat × Value)} {v : VV} (h : buildV P t parts = some v) (hp : PRels ρ parts parts'.toList) (w : World) :
    ∃ v', (Instr.build t parts').run P w = .ok v' w ∧ VRel ρ v v' := by
  unfold buildV at h
  cases hz : zeroV P t with
  | none => simp [hz] at h
  | some z =>
    obtain ⟨z', rz, ez⟩ := r_zeroValue hz
    cases hc : cellsV z with
    | none => simp [hz, hc] at h
    | some zero =>
      have hzr : VRels ρ zero z'.cells.toList := cellsV_rel hc (by rw [ez]; exact ofValue_rel ρ z')
      simp only [hz, hc] at h
      cases hu : P.underlying t with
      | none => simp [hu] at h
      | some d =>
        cases d <;> simp only [hu, reduceCtorEq] at h
        case struct fields =>
          cases hpl : placesV P fields.toList with
          | none => simp [hpl] at h
          | some places =>
            simp only [hpl] at h
            cases hf : fillV (places[·]?) zero parts with
            | none => simp [hf] at h
            | some cs =>
              simp only [hf, Option.some.injEq] at h
              subst h
              obtain ⟨r', e1, e2⟩ := fillV_rel (place' := fun i => places.toArray[i]?) (fun i => by simp) hf hp hzr
              refine ⟨.agg r', ?_, .agg e2⟩
              have hm : ∀ w, (fields.mapM (m := Sem) fun f => do pure (f.offset, ← sizeOf f.type)).run P w = .ok places.toArray w := by
                intro w
                rw [Array.mapM_eq_mapM_toList, Sem.run_map, placesV_run hpl]
                rfl
              simp only [Instr.build, Sem.run_bind, rz, Result.andThen_ok, r_underlying hu, hm, e1, Sem.run_pure]
        case array n e =>
          cases hs : sizeV P e with
          | none => simp [hs] at h
          | some size =>
            simp only [hs] at h
            cases hf : fillV (fun i => some (i * size, size)) zero parts with
            | none => simp [hf] at h
            | some cs =>
              simp only [hf, Option.some.injEq] at h
              subst h
              obtain ⟨r', e1, e2⟩ := fillV_rel (place' := fun i => some (i * size, size)) (fun i => rfl) hf hp hzr
              exact ⟨.agg r', by simp only [Instr.build, Sem.run_bind, rz, Result.andThen_ok, r_underlying hu, r_sizeOf hs, e1, Sem.run_pure], .agg e2⟩

theorem r_fieldAddr {s : TypeId} {a v : VV} {a' : Value} {f : Nat} (h : fieldAddrV P s a f = some v) (ha : VRel ρ a a') (w : World) : ∃ v', (Instr.fieldAt s a' f).run P w = .ok v' w ∧ VRel ρ v v' := by
  unfold fieldAddrV at h
  cases hu : P.underlying s with
  | none => simp [hu] at h
  | some d =>
    cases d <;> simp only [hu, reduceCtorEq] at h
    rename_i fields
    cases hf : fields[f]? with
    | none => simp [hf] at h
    | some fd =>
      cases ha <;> simp only [hf, reduceCtorEq] at h
      rename_i id r b n off hρ
      cases hs : sizeV P fd.type with
      | none => simp [hs] at h
      | some z =>
        cases z with
        | zero => simp [hs] at h
        | succ z =>
          simp only [hs, Option.some.injEq] at h
          subst h
          refine ⟨_, ?_, .ptr (off := off + fd.offset) hρ⟩
          simp [Instr.fieldAt, r_underlying hu, hf, Instr.sureAddr, fieldPlace, r_sizeOf hs, Addr.add_none, Nat.add_assoc]

theorem r_field {s : TypeId} {a v : VV} {a' : Value} {f : Nat} (h : fieldV P s a f = some v) (ha : VRel ρ a a') (w : World) : ∃ v', (Instr.field s a' f).run P w = .ok v' w ∧ VRel ρ v v' := by
  unfold fieldV at h
  cases hu : P.underlying s with
  | none => simp [hu] at h
  | some d =>
    cases d <;> simp only [hu, reduceCtorEq] at h
    rename_i fields
    cases hf : fields[f]? with
    | none => simp [hf] at h
    | some fd =>
      cases ha <;> simp only [hf, reduceCtorEq] at h
      rename_i cs cs' hc
      obtain ⟨v', e1, e2⟩ := r_part h hc w
      exact ⟨v', by simp [Instr.field, r_underlying hu, hf, asAgg, e1], e2⟩

theorem r_indexSlice {t e : TypeId} {k : IntKind} {i : Int} {r o len c z : Nat} (hu : P.underlying t = some (.slice e)) (hs : sizeV P e = some z) (h0 : 0 ≤ i) (hb : i.toNat < len) :
    (Instr.indexAt t (.slice (some ⟨r, o, none⟩) len c) (.int k i)).run P w = .ok (.pointer (some ⟨r, o + i.toNat * z, none⟩)) w := by
  have h2 : (0 ≤ i ∧ i < (len : Int)) := ⟨h0, by omega⟩
  simp only [Instr.indexAt, asIntOf, Sem.run_bind, Sem.run_pure, Result.andThen_ok, r_underlying hu, Sem.run_ite, if_pos h2, r_sizeOf hs, Addr.add_none]

theorem r_indexAddr {t : TypeId} {x ix v : VV} {x' ix' : Value} (h : indexAddrV P t x ix = some v) (hx : VRel ρ x x') (hi : VRel ρ ix ix') (w : World) : ∃ v', (Instr.indexAt t x' ix').run P w = .ok v' w ∧ VRel ρ v v' := by
  unfold indexAddrV at h
  cases hi <;> simp only [reduceCtorEq] at h
  rename_i k i
  split at h
  · rename_i h0
    cases hu : P.underlying t with
    | none => simp [hu] at h
    | some d =>
      cases d <;> simp only [hu, reduceCtorEq] at h
      case array len e =>
        cases hx <;> try (simp only [reduceCtorEq] at h; done)
        rename_i id r b n off hρ
        cases hs : sizeV P e with
        | none => simp [hs] at h
        | some z =>
          try simp only [hs] at h
          cases hb : Nat.blt i.toNat len with
          | false => simp [hb] at h
          | true =>
            simp only [hb, Option.some.injEq] at h
            subst h
            have hb' : i.toNat < len := by simpa [Nat.blt_eq] using hb
            have h2 : (0 ≤ i ∧ i < (len : Int)) := ⟨h0, by omega⟩
            refine ⟨_, ?_, .ptr (off := off + i.toNat * z) hρ⟩
            simp only [Instr.indexAt, asIntOf, Sem.run_bind, Sem.run_pure, Result.andThen_ok, r_underlying hu, Instr.sureAddr, Sem.run_ite, if_pos h2, r_sizeOf hs, Addr.add_none, Nat.add_assoc]
      case slice e =>
        cases hx <;> try (simp only [reduceCtorEq] at h; done)
        case slice id r b n off len c hρ =>
          cases hs : sizeV P e with
          | none => simp [hs] at h
          | some z =>
            simp only [hs] at h
            cases hb : Nat.blt i.toNat len with
            | false => simp [hb] at h
            | true =>
              simp only [hb, Option.some.injEq] at h
              subst h
              exact ⟨_, by rw [r_indexSlice hu hs h0 (by simpa [Nat.blt_eq] using hb), Nat.add_assoc], .ptr hρ⟩
        case rest id r b n off len c z' hρ hc hl =>
          cases hs : sizeV P e with
          | none => simp [hs] at h
          | some z =>
            simp only [hs] at h
            cases hb : Nat.blt i.toNat len with
            | false => simp [hb] at h
            | true =>
              simp only [hb, Option.some.injEq] at h
              subst h
              exact ⟨_, by rw [r_indexSlice hu hs h0 (by simpa [Nat.blt_eq] using hb), Nat.add_assoc], .ptr hρ⟩
        case restEnd id r b n off off' z' hρ =>
          cases hs : sizeV P e with
          | none => simp [hs] at h
          | some z => simp [hs, Nat.blt, Nat.ble] at h
        case sliceEnd id r b n off off' hρ =>
          cases hs : sizeV P e with
          | none => simp [hs] at h
          | some z => simp [hs, Nat.blt, Nat.ble] at h
  · cases h

end Go.Vm
