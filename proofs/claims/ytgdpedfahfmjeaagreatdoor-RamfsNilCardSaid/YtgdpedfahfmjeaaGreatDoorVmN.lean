/-
  A virtual semantics of the model's code (14): maps written, iterators.
-/
import Derived.Test.YtgdpedfahfmjeaaGreatDoorVmM
namespace Go.Vm
variable {P : Program} {G : Nat} {ρ : Ren} {S : St} {w : World}

theorem setObj_put {r : Nat} {o : Obj} (o' : Obj) (h : w.heap[r]? = some o) (hc : ∀ c t f, o ≠ .cells c t f) : (setObj r o').run P w = .ok () (World.put w r o') := by
  cases o <;> first | (exact absurd rfl (hc _ _ _)) | simp [setObj, Sem.run, h, World.put]

theorem getObj_run {r : Nat} {o : Obj} (h : w.heap[r]? = some o) (hc : ∀ c t f, o ≠ .cells c t f) : (getObj r).run P w = .ok o w := by
  cases o <;> first | (exact absurd rfl (hc _ _ _)) | simp [getObj, Sem.run, h]

theorem sameAll_sound : ∀ {a b : List VV} {a' b' : List Value} (n : Nat), sameV.sameAll a b = true → VRels ρ a a' → VRels ρ b b' → ((a'.length == b'.length) && (a'.zip b').all fun (x, y) => Instr.sameBits n x y) = true := by
  intro a
  induction a with
  | nil =>
    intro b a' b' n h ha hb
    cases b with
    | nil => cases ha; cases hb; rfl
    | cons y l => simp [sameV.sameAll] at h
  | cons x a ih =>
    intro b a' b' n h ha hb
    cases b with
    | nil => cases x <;> simp [sameV.sameAll] at h
    | cons y b =>
      cases ha with
      | cons hx hta =>
        cases hb with
        | cons hy htb =>
          cases hx <;> cases hy <;> simp only [sameV.sameAll, Bool.and_eq_true, decide_eq_true_eq, Bool.false_eq_true] at h
          case bool.bool p q =>
            have := ih n h.2 hta htb
            simp only [List.length_cons, List.zip_cons_cons, List.all_cons, Bool.and_eq_true, beq_iff_eq] at this ⊢
            exact ⟨by omega, by simpa [Instr.sameBits] using h.1, this.2⟩
          case int.int k p k' q =>
            have := ih n h.2 hta htb
            simp only [List.length_cons, List.zip_cons_cons, List.all_cons, Bool.and_eq_true, beq_iff_eq] at this ⊢
            exact ⟨by omega, by simpa [Instr.sameBits] using h.1, this.2⟩
          case str.str p q =>
            have := ih n h.2 hta htb
            simp only [List.length_cons, List.zip_cons_cons, List.all_cons, Bool.and_eq_true, beq_iff_eq] at this ⊢
            refine ⟨by omega, ?_, this.2⟩
            have e := h.1
            rw [strEq_eq] at e
            simp only [Instr.sameBits, beq_toListBytes, ByteArray.toList_eq]
            exact e

theorem same_sound {a b : VV} {a' b' : Value} (n : Nat) (h : sameV a b = true) (ha : VRel ρ a a') (hb : VRel ρ b b') : Instr.sameBits (n + 1) a' b' = true := by
  cases ha <;> cases hb <;> simp only [sameV, Bool.and_eq_true, decide_eq_true_eq, Bool.false_eq_true] at h
  case bool.bool p q => simpa [Instr.sameBits] using h
  case int.int k p k' q => simpa [Instr.sameBits] using h
  case str.str p q =>
    rw [strEq_eq] at h
    simp only [Instr.sameBits, beq_toListBytes, ByteArray.toList_eq]
    exact h
  case agg.agg cs cs' hc ds ds' hd =>
    have := sameAll_sound n h hc hd
    simp only [Instr.sameBits]
    simpa using this

theorem ERels.set : ∀ {l : List (VV × VV × Nat)} {l' : List MapEntry}, ERels ρ l l' → ∀ {i : Nat} {k v : VV} {k' v' : Value} {b : Nat}, VRel ρ k k' → VRel ρ v v' → ERels ρ (l.set i (k, v, b)) (l'.set i { key := k', val := v', born := b })
  | _, _, .nil, _, _, _, _, _, _, _, _ => by simp; exact .nil
  | _, _, .cons hk hv t, 0, _, _, _, _, _, h1, h2 => .cons h1 h2 t
  | _, _, .cons hk hv t, i + 1, _, _, _, _, _, h1, h2 => .cons hk hv (ERels.set t h1 h2)

theorem ERels.snoc : ∀ {l : List (VV × VV × Nat)} {l' : List MapEntry}, ERels ρ l l' → ∀ {k v : VV} {k' v' : Value} {b : Nat}, VRel ρ k k' → VRel ρ v v' → ERels ρ (l ++ [(k, v, b)]) (l' ++ [{ key := k', val := v', born := b }])
  | _, _, .nil, _, _, _, _, _, h1, h2 => .cons h1 h2 .nil
  | _, _, .cons hk hv t, _, _, _, _, _, h1, h2 => .cons hk hv (ERels.snoc t h1 h2)

theorem ERels.eraseIdx : ∀ {l : List (VV × VV × Nat)} {l' : List MapEntry}, ERels ρ l l' → ∀ i, ERels ρ (l.eraseIdx i) (l'.eraseIdx i)
  | _, _, .nil, _ => by simp; exact .nil
  | _, _, .cons hk hv t, 0 => t
  | _, _, .cons hk hv t, i + 1 => .cons hk hv (ERels.eraseIdx t i)

theorem modify_eq_set {α : Type} (a : Array α) (i : Nat) (f : α → α) {x : α} (h : a[i]? = some x) : (a.modify i f).toList = a.toList.set i (f x) := by
  apply List.ext_getElem?
  intro j
  rw [Array.getElem?_toList, Array.getElem?_modify, List.getElem?_set]
  by_cases e : i = j
  · subst e
    rw [h]
    have : i < a.size := by
      rcases Nat.lt_or_ge i a.size with q | q
      · exact q
      · rw [Array.getElem?_eq_none q] at h; cases h
    simp [this]
  · simp [e]

theorem r_mapSet (hS : Sim G ρ S w) {t : TypeId} {x k v u : VV} {x' k' v' : Value} {S' : St} (h : mapSetV P S t x k v = some (u, S')) (hx : VRel ρ x x') (hk : VRel ρ k k') (hv : VRel ρ v v') :
    u = undefV ∧ ∃ w', (Instr.mapUpdate t x' k' v').run P w = .ok () w' ∧ Goes G ρ S w ρ S' w' := by
  unfold mapSetV at h
  cases hu : P.underlying t with
  | none => simp [hu] at h
  | some d =>
    cases d <;> simp only [hu, reduceCtorEq] at h
    rename_i kt et
    cases hko : keyOk P kt k with
    | false => simp [hko] at h
    | true =>
      cases hm : mapOfV S x with
      | none => simp [hko, hm] at h
      | some q =>
        obtain ⟨id, es, c⟩ := q
        simp only [hko, hm] at h
        obtain ⟨r, b, n, es', rfl, rfl, hρ, ho, hr, he⟩ := hS.map hm hx
        have hck := fun e => keyOk_run (P := P) hko hk e w
        have hget := getObj_run (P := P) hr (by simp)
        cases hf : findV P S kt k es 0 with
        | none => simp [hf] at h
        | some q =>
          have hfk := r_findKey hS hk hf he (keyOk_und hko)
          cases q with
          | none =>
            simp only [hf, Tr.with_eq, Option.some.injEq, Prod.mk.injEq] at h
            obtain ⟨rfl, rfl⟩ := h
            refine ⟨rfl, _, ?_, Goes.update hS ho rfl hρ (onew' := .map (es'.push { key := k', val := v', born := c }) (c + 1)) (.map ?_)⟩
            · simp only [Instr.mapUpdate, Sem.run_bind, r_underlying hu, Result.andThen_ok, hget, hck, hfk, setObj_put _ hr (by simp)]
            · rw [Array.toList_push]
              exact he.snoc hk hv
          | some p =>
            obtain ⟨j, vv, bb⟩ := p
            simp only [hf] at h
            obtain ⟨v0, a1, a2, ⟨e, a3, a4, a5⟩, kk, a6⟩ := hfk
            simp only [a6] at h
            cases hs : sameV kk k with
            | false => simp [hs] at h
            | true =>
              simp only [hs, Tr.with_eq, Option.some.injEq, Prod.mk.injEq] at h
              obtain ⟨rfl, rfl⟩ := h
              obtain ⟨e2, b1, b2, b3, b4⟩ := he.get a6
              rw [a3] at b1
              cases b1
              have hsb : Instr.sameBits 10000 e.key k' = true := same_sound 9999 hs b2 hk
              have a3' : es'[j]? = some e := by simpa using a3
              refine ⟨rfl, _, ?_, Goes.update hS ho rfl hρ (onew' := .map (es'.modify j fun e => { e with key := k', val := v' }) c) (.map ?_)⟩
              · simp only [Instr.mapUpdate, Sem.run_bind, r_underlying hu, Result.andThen_ok, hget, hck, a1, a3', Option.map_some, Option.getD_some, Instr.keyThatStays, hsb, if_true, Sem.run_pure, setObj_put _ hr (by simp)]
              · rw [modify_eq_set _ _ _ a3']
                have := he.set (i := j) (b := bb) hk hv
                rw [← a5] at this
                rw [← a5]
                exact this

theorem r_delete (hS : Sim G ρ S w) {t : TypeId} {x k u : VV} {x' k' : Value} {S' : St} (ts : Array TypeId) (ty : TypeId) (hts : ts[0]? = some t) (h : deleteV P S t x k = some (u, S')) (hx : VRel ρ x x') (hk : VRel ρ k k') :
    u = undefV ∧ ∃ w', (Builtin.delete_ ts ty #[x', k']).run P w = .ok undef w' ∧ Goes G ρ S w ρ S' w' := by
  unfold deleteV at h
  cases hu : P.underlying t with
  | none => simp [hu] at h
  | some d =>
    cases d <;> simp only [hu, reduceCtorEq] at h
    rename_i kt et
    cases hko : keyOk P kt k with
    | false => simp [hko] at h
    | true =>
      simp only [hko] at h
      have hck := fun e => keyOk_run (P := P) hko hk e w
      cases hx
      case nilMap =>
        simp only [Option.some.injEq, Prod.mk.injEq] at h
        obtain ⟨rfl, rfl⟩ := h
        exact ⟨rfl, w, by simp [Builtin.delete_, hts, r_underlying hu, hck, undef], .refl hS⟩
      case map id r b n hρ =>
        simp only at h
        cases hm : mapOfV S (.map (some id)) with
        | none => simp [hm] at h
        | some q =>
          obtain ⟨id', es, c⟩ := q
          simp only [hm] at h
          obtain ⟨r', b', n', es', e1, e2, hρ', ho, hr, he⟩ := hS.map hm (.map hρ)
          cases e1
          cases e2
          have hget := getObj_run (P := P) hr (by simp)
          cases hf : findV P S kt k es 0 with
          | none => simp [hf] at h
          | some q =>
            have hfk := r_findKey hS hk hf he (keyOk_und hko)
            cases q with
            | none =>
              simp only [hf, Option.some.injEq, Prod.mk.injEq] at h
              obtain ⟨rfl, rfl⟩ := h
              refine ⟨rfl, w, ?_, .refl hS⟩
              simp [Builtin.delete_, hts, r_underlying hu, hget, hck, hfk, setObj_put _ hr (by simp), undef, put_same hr]
            | some p =>
              obtain ⟨j, vv, bb⟩ := p
              simp only [hf, Tr.with_eq, Option.some.injEq, Prod.mk.injEq] at h
              obtain ⟨rfl, rfl⟩ := h
              obtain ⟨v0, a1, _, _, _⟩ := hfk
              refine ⟨rfl, _, ?_, Goes.update hS ho rfl hρ (onew' := .map (es'.eraseIdxIfInBounds j) c) (.map ?_)⟩
              · simp [Builtin.delete_, hts, r_underlying hu, hget, hck, a1, setObj_put _ hr (by simp), undef]
              · have := he.eraseIdx j
                have e : (es'.eraseIdxIfInBounds j).toList = es'.toList.eraseIdx j := by
                  unfold Array.eraseIdxIfInBounds
                  split
                  · simp
                  · rename_i q
                    rw [List.eraseIdx_of_length_le (by simpa using q)]
                rw [e]
                exact this
      all_goals (simp [mapOfV] at h)

/- iterators -/
theorem r_range (hS : Sim G ρ S w) {t : TypeId} {x v : VV} {x' : Value} {S' : St} (h : rangeV P S t x = some (v, S')) (hx : VRel ρ x x') :
    ∃ ρ' v' w', (Instr.range t x').run P w = .ok v' w' ∧ VRel ρ' v v' ∧ Goes G ρ S w ρ' S' w' := by
  unfold rangeV at h
  have key : ∀ (o : VObj) (o' : Obj), (∀ ρ' : Ren, ρ.le ρ' → ORel ρ' 0 0 o o') → v = .ptr (some (S.nx, 0)) → S' = { h := S.h.set S.nx o, nx := S.nx + 1 } →
      ∃ ρ' v' w', (do pure (.pointer (some ⟨← newObj o', 0, none⟩)) : Sem Value).run P w = .ok v' w' ∧ VRel ρ' v v' ∧ Goes G ρ S w ρ' S' w' := by
    rintro o o' ho rfl rfl
    exact ⟨_, _, _, rfl, .ptr (b := 0) (n := 0) (off := 0) (by simp [Ren.add]), Goes.alloc hS 0 o o' ho⟩
  cases hu : P.underlying t with
  | none => simp [hu] at h
  | some d =>
    cases d <;> simp only [hu, reduceCtorEq] at h
    case string =>
      cases hx <;> try (simp only [reduceCtorEq] at h; done)
      rename_i s
      simp only [Tr.with_eq, Option.some.injEq, Prod.mk.injEq] at h
      obtain ⟨ρ', v', w', e1, e2, e3⟩ := key _ _ (fun ρ' _ => .strIter rfl s 0) h.1.symm h.2.symm
      exact ⟨ρ', v', w', by simpa [Instr.range, r_underlying hu] using e1, e2, e3⟩
    case map kt et =>
      cases hx <;> try (simp [mapOfV] at h; done)
      case nilMap =>
        simp only [Tr.with_eq, Option.some.injEq, Prod.mk.injEq] at h
        obtain ⟨ρ', v', w', e1, e2, e3⟩ := key _ _ (fun ρ' _ => .mapIterNil rfl 0 0 #[]) h.1.symm h.2.symm
        exact ⟨ρ', v', w', by simpa [Instr.range, r_underlying hu] using e1, e2, e3⟩
      case map id r b n hρ =>
        simp only at h
        cases hm : mapOfV S (.map (some id)) with
        | none => simp [hm] at h
        | some q =>
          obtain ⟨id', es, c⟩ := q
          simp only [hm, Tr.with_eq, Option.some.injEq, Prod.mk.injEq] at h
          obtain ⟨r', b', n', es', e1, e2, hρ', ho, hr, he⟩ := hS.map hm (.map hρ)
          cases e1
          cases e2
          obtain ⟨ρ', v', w', e1, e2, e3⟩ := key _ _ (fun ρ' hle => .mapIter rfl c c #[] (hle _ _ hρ)) h.1.symm h.2.symm
          refine ⟨ρ', v', w', ?_, e2, e3⟩
          simp only [Instr.range, Sem.run_bind, r_underlying hu, Result.andThen_ok, getObj_run hr (by simp), Sem.run_pure]
          exact e1

theorem leftV_rel {seen : Array Nat} : ∀ {l : List (VV × VV × Nat)} {l' : List MapEntry}, ERels ρ l l' → ERels ρ (leftV seen.toList l) (l'.filter fun e => !seen.contains e.born)
  | _, _, .nil => .nil
  | _, _, .cons (k := k) (v := v) (b := b) hk hv t => by
    simp only [leftV]
    have e : seen.toList.contains b = seen.contains b := by simp
    rw [List.filter_cons]
    cases hc : seen.contains b with
    | true =>
      rw [e, hc]
      simp only [if_true, hc, Bool.not_true, Bool.false_eq_true, if_false]
      exact leftV_rel t
    | false =>
      rw [e, hc]
      simp only [Bool.false_eq_true, if_false, hc, Bool.not_false, if_true]
      exact .cons hk hv (leftV_rel t)

theorem ERels.all {p : Nat → Bool} : ∀ {l : List (VV × VV × Nat)} {l' : List MapEntry}, ERels ρ l l' → (l'.all fun e => p e.born) = l.all fun e => p e.2.2
  | _, _, .nil => rfl
  | _, _, .cons hk hv t => by simp only [List.all_cons, ERels.all t]

theorem ERels.get' : ∀ {l : List (VV × VV × Nat)} {l' : List MapEntry}, ERels ρ l l' → ∀ {i : Nat} {e : MapEntry}, l'[i]? = some e → ∃ k v, l[i]? = some (k, v, e.born) ∧ VRel ρ k e.key ∧ VRel ρ v e.val
  | _, _, .nil, i, _, h => by simp at h
  | _, _, .cons hk hv t, 0, e, h => by simp at h; subst h; exact ⟨_, _, rfl, hk, hv⟩
  | _, _, .cons hk hv t, i + 1, e, h => by simp at h; simpa using ERels.get' t h

theorem r_choose (q : Question) (w : World) : ∃ t w', (choose q).run P w = .ok (if q.forced then 0 else q.cut t) w' ∧ w'.heap = w.heap ∧ w'.output = w.output ∧ w'.os = w.os := by
  rw [run_choose]
  split
  · exact ⟨0, w, rfl, rfl, rfl, rfl⟩
  · exact ⟨w.tape w.drawn q, _, rfl, rfl, rfl, rfl⟩

set_option maxHeartbeats 2000000 in
theorem r_next (hS : Sim G ρ S w) {it : VV} {it' : Value} {isString : Bool} {L : List (VV × St)} (ty : TypeId) (h : nextV S it isString = some L) (hi : VRel ρ it it') :
    ∃ v S', (v, S') ∈ L ∧ ∃ v' w', (Instr.next it' isString ty).run P w = .ok v' w' ∧ VRel ρ v v' ∧ Goes G ρ S w ρ S' w' := by
  unfold nextV at h
  split at h
  · rename_i r
    cases hi with
    | ptr hρ =>
      rename_i r' b n
      cases ho : S.h.get r with
      | none => simp [ho] at h
      | some o =>
        obtain ⟨q, bq, nq, o', h1, h2, h3⟩ := hS.obj r o ho
        rw [hρ] at h1
        cases h1
        cases h3 <;> simp only [ho, reduceCtorEq] at h
        case strIter hb s pos =>
          subst hb
          cases isString with
          | false => simp at h
          | true =>
            simp only [if_true] at h
            split at h
            · rename_i hp
              simp only [Tr.with_eq, Option.some.injEq] at h
              subst h
              have hs : (⟨s.data.toList.toArray⟩ : ByteArray) = s := by simp
              have hp' : pos < s.size := by simpa using hp
              refine ⟨_, _, List.mem_singleton.2 rfl, .tuple #[.bool true, goInt pos, .int .i32 (Utf8.decode s pos).1], _, ?_, ?_, Goes.update hS ho rfl hρ (.strIter rfl s (pos + (Utf8.decode s pos).2))⟩
              · simp only [Instr.next, Sem.run_bind, Nat.add_zero, getObj_run h2 (by simp), Result.andThen_ok, if_pos hp', setObj_put _ h2 (by simp), Sem.run_pure]
              · rw [hs]
                exact .tuple (.cons (.bool _) (.cons (.int _ _) (.cons (.int _ _) .nil)))
            · rename_i hp
              simp only [Option.some.injEq] at h
              subst h
              have hp' : ¬ pos < s.size := by simpa using hp
              exact ⟨_, _, List.mem_singleton.2 rfl, .tuple #[.bool false], w, by simp only [Instr.next, Sem.run_bind, Nat.add_zero, getObj_run h2 (by simp), Result.andThen_ok, if_neg hp', Sem.run_pure], .tuple (.cons (.bool _) .nil), .refl hS⟩
        case mapIterNil hb since stepped seen =>
          subst hb
          cases isString with
          | true => simp at h
          | false =>
            simp only [Bool.false_eq_true, if_false, Option.some.injEq] at h
            subst h
            exact ⟨_, _, List.mem_singleton.2 rfl, .tuple #[.bool false], w, by simp only [Instr.next, Sem.run_bind, Nat.add_zero, getObj_run h2 (by simp), Result.andThen_ok, Sem.run_pure], .tuple (.cons (.bool _) .nil), .refl hS⟩
        case mapIter m rm bm nm hb since stepped seen hm =>
          subst hb
          cases isString with
          | true => simp at h
          | false =>
            simp only [Bool.false_eq_true, if_false] at h
            cases hom : S.h.get m with
            | none => simp [hom] at h
            | some om =>
              cases om <;> simp only [hom, reduceCtorEq] at h
              rename_i es clock
              obtain ⟨es', hrm, he⟩ : ∃ es', w.heap[rm]? = some (.map es' clock) ∧ ERels ρ es es'.toList := by
                obtain ⟨q, bq, nq, o'', k1, k2, k3⟩ := hS.obj m _ hom
                rw [hm] at k1
                cases k1
                cases k3 with
                | map he => exact ⟨_, k2, he⟩
              split at h
              · cases h
              · rename_i hchk
                have e1 : es'.all (fun e => decide (e.born ≥ stepped)) = es.all (fun e => decide (stepped ≤ e.2.2)) := by
                  rw [← Array.all_toList]
                  exact he.all (p := fun b => decide (stepped ≤ b))
                have e2 : es'.isEmpty = es.isEmpty := by
                  have := he.length
                  cases es <;> simp_all [Array.isEmpty]
                have e3 : seen.isEmpty = seen.toList.isEmpty := by cases seen; simp
                have hchk' : (!seen.isEmpty && !es'.isEmpty && es'.all (fun e => decide (e.born ≥ stepped))) = false := by
                  rw [e1, e2, e3]
                  simpa using hchk
                have hl := leftV_rel (seen := seen) he
                have hleft : (es'.filter fun e => !seen.contains e.born).toList = es'.toList.filter fun e => !seen.contains e.born := by simp
                split at h
                · rename_i hnil
                  rw [hnil] at hl
                  simp only [Option.some.injEq] at h
                  subst h
                  have h0 : (es'.filter fun e => !seen.contains e.born) = #[] := by
                    apply Array.toList_inj.1
                    rw [hleft]
                    generalize es'.toList.filter (fun e => !seen.contains e.born) = q at hl
                    cases hl
                    rfl
                  refine ⟨_, _, List.mem_singleton.2 rfl, .tuple #[.bool false], w, ?_, .tuple (.cons (.bool _) .nil), Goes.drop hS r⟩
                  simp only [Instr.next, Sem.run_bind, Nat.add_zero, getObj_run h2 (by simp), getObj_run hrm (by simp), Result.andThen_ok, hchk', Bool.false_eq_true, if_false, h0]
                  simp [run_choose, Question.forced]
                · rename_i hne
                  split at h
                  · rename_i hall
                    simp only [Option.some.injEq] at h
                    subst h
                    have hold : ((es'.filter fun e => !seen.contains e.born).filter fun e => decide (e.born < since)) = es'.filter fun e => !seen.contains e.born := by
                      rw [Array.filter_eq_self]
                      intro e hmem
                      have := hl.all (p := fun b => decide (b < since))
                      rw [hall, List.all_eq_true] at this
                      exact this e (by rw [← hleft]; exact Array.mem_toList_iff.2 hmem)
                    have hnew : ((es'.filter fun e => !seen.contains e.born).filter fun e => decide (e.born ≥ since)) = #[] := by
                      rw [Array.filter_eq_empty_iff]
                      intro e hmem
                      have := hl.all (p := fun b => decide (b < since))
                      rw [hall, List.all_eq_true] at this
                      have := this e (by rw [← hleft]; exact Array.mem_toList_iff.2 hmem)
                      simp only [decide_eq_true_eq] at this ⊢
                      omega
                    have hpos : (es'.filter fun e => !seen.contains e.born).size ≠ 0 := by
                      intro q
                      have q2 := hl.length
                      rw [← hleft, Array.length_toList, q] at q2
                      exact hne (List.length_eq_zero_iff.1 q2.symm)
                    have hemp : (es'.filter fun e => !seen.contains e.born).isEmpty = false := by
                      simpa [Array.isEmpty] using hpos
                    obtain ⟨t, w1, hc1, hc2, hc3, hc4⟩ := r_choose (P := P) (.mapNext (es'.filter fun e => !seen.contains e.born).size) w
                    have hidx : (if (Question.mapNext (es'.filter fun e => !seen.contains e.born).size).forced then 0 else (Question.mapNext (es'.filter fun e => !seen.contains e.born).size).cut t) < (es'.filter fun e => !seen.contains e.born).size := by
                      split
                      · omega
                      · exact Nat.mod_lt _ (by omega)
                    generalize hix : (if (Question.mapNext (es'.filter fun e => !seen.contains e.born).size).forced then 0 else (Question.mapNext (es'.filter fun e => !seen.contains e.born).size).cut t) = ix at hc1 hidx
                    have hgi : (es'.filter fun e => !seen.contains e.born)[ix]? = some (es'.filter fun e => !seen.contains e.born)[ix] := Array.getElem?_eq_getElem hidx
                    obtain ⟨k, v, g1, g2, g3⟩ := hl.get' (i := ix) (e := (es'.filter fun e => !seen.contains e.born)[ix]) (by rw [← hleft, Array.getElem?_toList, hgi])
                    have hS1 := (Goes.same hS hc2 hc3 hc4)
                    have h2' : w1.heap[r']? = some (.mapIter (some rm) since seen stepped) := by rw [hc2]; exact h2
                    have hup := Goes.update (onew := .mapIter (some m) since (seen.toList ++ [(es'.filter fun e => !seen.contains e.born)[ix].born]) clock) (onew' := .mapIter (some rm) since (seen.push (es'.filter fun e => !seen.contains e.born)[ix].born) clock) hS1.sim ho rfl hρ (by
                      have := ORel.mapIter (ρ := ρ) (b := 0) (n := n) rfl since clock (seen.push (es'.filter fun e => !seen.contains e.born)[ix].born) hm
                      simpa using this)
                    refine ⟨_, _, List.mem_map.2 ⟨_, List.mem_of_getElem? g1, rfl⟩, .tuple #[.bool true, (es'.filter fun e => !seen.contains e.born)[ix].key, (es'.filter fun e => !seen.contains e.born)[ix].val], _, ?_, .tuple (.cons (.bool _) (.cons g2 (.cons g3 .nil))), hS1.trans hup⟩
                    simp only [Instr.next, Sem.run_bind, Nat.add_zero, getObj_run h2 (by simp), getObj_run hrm (by simp), Result.andThen_ok, hchk', Bool.false_eq_true, if_false, hold, hnew, hemp, Array.append_empty, Array.empty_append, Array.size_map, hc1]
                    simp only [Array.getElem?_map, hgi, Option.map_some, Sem.run_bind, setObj_put _ h2' (by simp), Result.andThen_ok, Sem.run_pure]
                  · cases h
  · cases h

end Go.Vm
