/-
  What is proved here: run lemmas of the model's instructions (2); simple operations are as virtual ones. No condition.
-/
import Derived.Test.YtgdpedfahfmjeaaDoorMb

/-
  A virtual semantics of the model's code (14): maps written, iterators.
-/
namespace Go.Vm
variable {P : Program} {G : Nat} {ρ : Ren} {S : St} {w : World}

theorem setObj_put {r : Nat} {o : Obj} (o' : Obj) (h : w.heap[r]? = some o) (hc : ∀ c t f, o ≠ .cells c t f) : (setObj r o').run P w = .ok () (World.put w r o') := by
  cases o <;> first | (exact absurd rfl (hc _ _ _)) | simp [setObj, Sem.run, h, World.put]

theorem getObj_run {r : Nat} {o : Obj} (h : w.heap[r]? = some o) (hc : ∀ c t f, o ≠ .cells c t f) : (getObj r).run P w = .ok o w := by
  cases o <;> first | (exact absurd rfl (hc _ _ _)) | simp [getObj, Sem.run, h]

theorem sameAll_sound : ∀ {a b : List VV} {a' b' : List Value} (n : Nat), sameV.sameAll a b = true → VRels ρ a a' → VRels ρ b b' → ((a'.length == b'.length) && (a'.zip b').all fun (x, y) => Instr.sameBits n x y) = true := by
  intro a
  induction a with
  | nil =>
    intro b a' b' n h ha hb
    cases b with
    | nil => cases ha; cases hb; rfl
    | cons y l => simp [sameV.sameAll] at h
  | cons x a ih =>
    intro b a' b' n h ha hb
    cases b with
    | nil => cases x <;> simp [sameV.sameAll] at h
    | cons y b =>
      cases ha with
      | cons hx hta =>
        cases hb with
        | cons hy htb =>
          cases hx <;> cases hy <;> simp only [sameV.sameAll, Bool.and_eq_true, decide_eq_true_eq, Bool.false_eq_true] at h
          case bool.bool p q =>
            have := ih n h.2 hta htb
            simp only [List.length_cons, List.zip_cons_cons, List.all_cons, Bool.and_eq_true, beq_iff_eq] at this ⊢
            exact ⟨by omega, by simpa [Instr.sameBits] using h.1, this.2⟩
          case int.int k p k' q =>
            have := ih n h.2 hta htb
            simp only [List.length_cons, List.zip_cons_cons, List.all_cons, Bool.and_eq_true, beq_iff_eq] at this ⊢
            exact ⟨by omega, by simpa [Instr.sameBits] using h.1, this.2⟩
          case str.str p q =>
            have := ih n h.2 hta htb
            simp only [List.length_cons, List.zip_cons_cons, List.all_cons, Bool.and_eq_true, beq_iff_eq] at this ⊢
            refine ⟨by omega, ?_, this.2⟩
            have e := h.1
            rw [strEq_eq] at e
            simp only [Instr.sameBits, beq_toListBytes, ByteArray.toList_eq]
            exact e

theorem same_sound {a b : VV} {a' b' : Value} (n : Nat) (h : sameV a b = true) (ha : VRel ρ a a') (hb : VRel ρ b b') : Instr.sameBits (n + 1) a' b' = true := by
  cases ha <;> cases hb <;> simp only [sameV, Bool.and_eq_true, decide_eq_true_eq, Bool.false_eq_true] at h
  case bool.bool p q => simpa [Instr.sameBits] using h
  case int.int k p k' q => simpa [Instr.sameBits] using h
  case str.str p q =>
    rw [strEq_eq] at h
    simp only [Instr.sameBits, beq_toListBytes, ByteArray.toList_eq]
    exact h
  case agg.agg cs cs' hc ds ds' hd =>
    have := sameAll_sound n h hc hd
    simp only [Instr.sameBits]
    simpa using this

theorem ERels.set : ∀ {l : List (VV × VV × Nat)} {l' : List MapEntry}, ERels ρ l l' → ∀ {i : Nat} {k v : VV} {k' v' : Value} {b : Nat}, VRel ρ k k' → VRel ρ v v' → ERels ρ (l.set i (k, v, b)) (l'.set i { key := k', val := v', born := b })
  | _, _, .nil, _, _, _, _, _, _, _, _ => by simp; exact .nil
  | _, _, .cons hk hv t, 0, _, _, _, _, _, h1, h2 => .cons h1 h2 t
  | _, _, .cons hk hv t, i + 1, _, _, _, _, _, h1, h2 => .cons hk hv (ERels.set t h1 h2)

theorem ERels.snoc : ∀ {l : List (VV × VV × Nat)} {l' : List MapEntry}, ERels ρ l l' → ∀ {k v : VV} {k' v' : Value} {b : Nat}, VRel ρ k k' → VRel ρ v v' → ERels ρ (l ++ [(k, v, b)]) (l' ++ [{ key := k', val := v', born := b }])
  | _, _, .nil, _, _, _, _, _, h1, h2 => .cons h1 h2 .nil
  | _, _, .cons hk hv t, _, _, _, _, _, h1, h2 => .cons hk hv (ERels.snoc t h1 h2)

theorem ERels.eraseIdx : ∀ {l : List (VV × VV × Nat)} {l' : List MapEntry}, ERels ρ l l' → ∀ i, ERels ρ (l.eraseIdx i) (l'.eraseIdx i)
  | _, _, .nil, _ => by simp; exact .nil
  | _, _, .cons hk hv t, 0 => t
  | _, _, .cons hk hv t, i + 1 => .cons hk hv (ERels.eraseIdx t i)

theorem modify_eq_set {α : Type} (a : Array α) (i : Nat) (f : α → α) {x : α} (h : a[i]? = some x) : (a.modify i f).toList = a.toList.set i (f x) := by
  apply List.ext_getElem?
  intro j
  rw [Array.getElem?_toList, Array.getElem?_modify, List.getElem?_set]
  by_cases e : i = j
  · subst e
    rw [h]
    have : i < a.size := by
      rcases Nat.lt_or_ge i a.size with q | q
      · exact q
      · rw [Array.getElem?_eq_none q] at h; cases h
    simp [this]
  · simp [e]

theorem r_mapSet (hS : Sim G ρ S w) {t : TypeId} {x k v u : VV} {x' k' v' : Value} {S' : St} (h : mapSetV P S t x k v = some (u, S')) (hx : VRel ρ x x') (hk : VRel ρ k k') (hv : VRel ρ v v') :
    u = undefV ∧ ∃ w', (Instr.mapUpdate t x' k' v').run P w = .ok () w' ∧ Goes G ρ S w ρ S' w' := by
  unfold mapSetV at h
  cases hu : P.underlying t with
  | none => simp [hu] at h
  | some d =>
    cases d <;> simp only [hu, reduceCtorEq] at h
    rename_i kt et
    cases hko : keyOk P kt k with
    | false => simp [hko] at h
    | true =>
      cases hm : mapOfV S x with
      | none => simp [hko, hm] at h
      | some q =>
        obtain ⟨id, es, c⟩ := q
        simp only [hko, hm] at h
        obtain ⟨r, b, n, es', rfl, rfl, hρ, ho, hr, he⟩ := hS.map hm hx
        have hck := fun e => keyOk_run (P := P) hko hk e w
        have hget := getObj_run (P := P) hr (by simp)
        cases hf : findV P S kt k es 0 with
        | none => simp [hf] at h
        | some q =>
          have hfk := r_findKey hS hk hf he (keyOk_und hko)
          cases q with
          | none =>
            simp only [hf, Tr.with_eq, Option.some.injEq, Prod.mk.injEq] at h
            obtain ⟨rfl, rfl⟩ := h
            refine ⟨rfl, _, ?_, Goes.update hS ho rfl hρ (onew' := .map (es'.push { key := k', val := v', born := c }) (c + 1)) (.map ?_)⟩
            · simp only [Instr.mapUpdate, Sem.run_bind, r_underlying hu, Result.andThen_ok, hget, hck, hfk, setObj_put _ hr (by simp)]
            · rw [Array.toList_push]
              exact he.snoc hk hv
          | some p =>
            obtain ⟨j, vv, bb⟩ := p
            simp only [hf] at h
            obtain ⟨v0, a1, a2, ⟨e, a3, a4, a5⟩, kk, a6⟩ := hfk
            simp only [a6] at h
            cases hs : sameV kk k with
            | false => simp [hs] at h
            | true =>
              simp only [hs, Tr.with_eq, Option.some.injEq, Prod.mk.injEq] at h
              obtain ⟨rfl, rfl⟩ := h
              obtain ⟨e2, b1, b2, b3, b4⟩ := he.get a6
              rw [a3] at b1
              cases b1
              have hsb : Instr.sameBits 10000 e.key k' = true := same_sound 9999 hs b2 hk
              have a3' : es'[j]? = some e := by simpa using a3
              refine ⟨rfl, _, ?_, Goes.update hS ho rfl hρ (onew' := .map (es'.modify j fun e => { e with key := k', val := v' }) c) (.map ?_)⟩
              · simp only [Instr.mapUpdate, Sem.run_bind, r_underlying hu, Result.andThen_ok, hget, hck, a1, a3', Option.map_some, Option.getD_some, Instr.keyThatStays, hsb, if_true, Sem.run_pure, setObj_put _ hr (by simp)]
              · rw [modify_eq_set _ _ _ a3']
                have := he.set (i := j) (b := bb) hk hv
                rw [← a5] at this
                rw [← a5]
                exact this

theorem r_delete (hS : Sim G ρ S w) {t : TypeId} {x k u : VV} {x' k' : Value} {S' : St} (ts : Array TypeId) (ty : TypeId) (hts : ts[0]? = some t) (h : deleteV P S t x k = some (u, S')) (hx : VRel ρ x x') (hk : VRel ρ k k') :
    u = undefV ∧ ∃ w', (Builtin.delete_ ts ty #[x', k']).run P w = .ok undef w' ∧ Goes G ρ S w ρ S' w' := by
  unfold deleteV at h
  cases hu : P.underlying t with
  | none => simp [hu] at h
  | some d =>
    cases d <;> simp only [hu, reduceCtorEq] at h
    rename_i kt et
    cases hko : keyOk P kt k with
    | false => simp [hko] at h
    | true =>
      simp only [hko] at h
      have hck := fun e => keyOk_run (P := P) hko hk e w
      cases hx
      case nilMap =>
        simp only [Option.some.injEq, Prod.mk.injEq] at h
        obtain ⟨rfl, rfl⟩ := h
        exact ⟨rfl, w, by simp [Builtin.delete_, hts, r_underlying hu, hck, undef], .refl hS⟩
      case map id r b n hρ =>
        simp only at h
        cases hm : mapOfV S (.map (some id)) with
        | none => simp [hm] at h
        | some q =>
          obtain ⟨id', es, c⟩ := q
          simp only [hm] at h
          obtain ⟨r', b', n', es', e1, e2, hρ', ho, hr, he⟩ := hS.map hm (.map hρ)
          cases e1
          cases e2
          have hget := getObj_run (P := P) hr (by simp)
          cases hf : findV P S kt k es 0 with
          | none => simp [hf] at h
          | some q =>
            have hfk := r_findKey hS hk hf he (keyOk_und hko)
            cases q with
            | none =>
              simp only [hf, Option.some.injEq, Prod.mk.injEq] at h
              obtain ⟨rfl, rfl⟩ := h
              refine ⟨rfl, w, ?_, .refl hS⟩
              simp [Builtin.delete_, hts, r_underlying hu, hget, hck, hfk, setObj_put _ hr (by simp), undef, put_same hr]
            | some p =>
              obtain ⟨j, vv, bb⟩ := p
              simp only [hf, Tr.with_eq, Option.some.injEq, Prod.mk.injEq] at h
              obtain ⟨rfl, rfl⟩ := h
              obtain ⟨v0, a1, _, _, _⟩ := hfk
              refine ⟨rfl, _, ?_, Goes.update hS ho rfl hρ (onew' := .map (es'.eraseIdxIfInBounds j) c) (.map ?_)⟩
              · simp [Builtin.delete_, hts, r_underlying hu, hget, hck, a1, setObj_put _ hr (by simp), undef]
              · have := he.eraseIdx j
                have e : (es'.eraseIdxIfInBounds j).toList = es'.toList.eraseIdx j := by
                  unfold Array.eraseIdxIfInBounds
                  split
                  · simp
                  · rename_i q
                    rw [List.eraseIdx_of_length_le (by simpa using q)]
                rw [e]
                exact this
      all_goals (simp [mapOfV] at h)

/- iterators -/
theorem r_range (hS : Sim G ρ S w) {t : TypeId} {x v : VV} {x' : Value} {S' : St} (h : rangeV P S t x = some (v, S')) (hx : VRel ρ x x') :
    ∃ ρ' v' w', (Instr.range t x').run P w = .ok v' w' ∧ VRel ρ' v v' ∧ Goes G ρ S w ρ' S' w' := by
  unfold rangeV at h
  have key : ∀ (o : VObj) (o' : Obj), (∀ ρ' : Ren, ρ.le ρ' → ORel ρ' 0 0 o o') → v = .ptr (some (S.nx, 0)) → S' = { h := S.h.set S.nx o, nx := S.nx + 1 } →
      ∃ ρ' v' w', (do pure (.pointer (some ⟨← newObj o', 0, none⟩)) : Sem Value).run P w = .ok v' w' ∧ VRel ρ' v v' ∧ Goes G ρ S w ρ' S' w' := by
    rintro o o' ho rfl rfl
    exact ⟨_, _, _, rfl, .ptr (b := 0) (n := 0) (off := 0) (by simp [Ren.add]), Goes.alloc hS 0 o o' ho⟩
  cases hu : P.underlying t with
  | none => simp [hu] at h
  | some d =>
    cases d <;> simp only [hu, reduceCtorEq] at h
    case string =>
      cases hx <;> try (simp only [reduceCtorEq] at h; done)
      rename_i s
      simp only [Tr.with_eq, Option.some.injEq, Prod.mk.injEq] at h
      obtain ⟨ρ', v', w', e1, e2, e3⟩ := key _ _ (fun ρ' _ => .strIter rfl s 0) h.1.symm h.2.symm
      exact ⟨ρ', v', w', by simpa [Instr.range, r_underlying hu] using e1, e2, e3⟩
    case map kt et =>
      cases hx <;> try (simp [mapOfV] at h; done)
      case nilMap =>
        simp only [Tr.with_eq, Option.some.injEq, Prod.mk.injEq] at h
        obtain ⟨ρ', v', w', e1, e2, e3⟩ := key _ _ (fun ρ' _ => .mapIterNil rfl 0 0 #[]) h.1.symm h.2.symm
        exact ⟨ρ', v', w', by simpa [Instr.range, r_underlying hu] using e1, e2, e3⟩
      case map id r b n hρ =>
        simp only at h
        cases hm : mapOfV S (.map (some id)) with
        | none => simp [hm] at h
        | some q =>
          obtain ⟨id', es, c⟩ := q
          simp only [hm, Tr.with_eq, Option.some.injEq, Prod.mk.injEq] at h
          obtain ⟨r', b', n', es', e1, e2, hρ', ho, hr, he⟩ := hS.map hm (.map hρ)
          cases e1
          cases e2
          obtain ⟨ρ', v', w', e1, e2, e3⟩ := key _ _ (fun ρ' hle => .mapIter rfl c c #[] (hle _ _ hρ)) h.1.symm h.2.symm
          refine ⟨ρ', v', w', ?_, e2, e3⟩
          simp only [Instr.range, Sem.run_bind, r_underlying hu, Result.andThen_ok, getObj_run hr (by simp), Sem.run_pure]
          exact e1

theorem leftV_rel {seen : Array Nat} : ∀ {l : List (VV × VV × Nat)} {l' : List MapEntry}, ERels ρ l l' → ERels ρ (leftV seen.toList l) (l'.filter fun e => !seen.contains e.born)
  | _, _, .nil => .nil
  | _, _, .cons (k := k) (v := v) (b := b) hk hv t => by
    simp only [leftV]
    have e : seen.toList.contains b = seen.contains b := by simp
    rw [List.filter_cons]
    cases hc : seen.contains b with
    | true =>
      rw [e, hc]
      simp only [if_true, hc, Bool.not_true, Bool.false_eq_true, if_false]
      exact leftV_rel t
    | false =>
      rw [e, hc]
      simp only [Bool.false_eq_true, if_false, hc, Bool.not_false, if_true]
      exact .cons hk hv (leftV_rel t)

theorem ERels.all {p : Nat → Bool} : ∀ {l : List (VV × VV × Nat)} {l' : List MapEntry}, ERels ρ l l' → (l'.all fun e => p e.born) = l.all fun e => p e.2.2
  | _, _, .nil => rfl
  | _, _, .cons hk hv t => by simp only [List.all_cons, ERels.all t]

theorem ERels.get' : ∀ {l : List (VV × VV × Nat)} {l' : List MapEntry}, ERels ρ l l' → ∀ {i : Nat} {e : MapEntry}, l'[i]? = some e → ∃ k v, l[i]? = some (k, v, e.born) ∧ VRel ρ k e.key ∧ VRel ρ v e.val
  | _, _, .nil, i, _, h => by simp at h
  | _, _, .cons hk hv t, 0, e, h => by simp at h; subst h; exact ⟨_, _, rfl, hk, hv⟩
  | _, _, .cons hk hv t, i + 1, e, h => by simp at h; simpa using ERels.get' t h

theorem r_choose (q : Question) (w : World) : ∃ t w', (choose q).run P w = .ok (if q.forced then 0 else q.cut t) w' ∧ w'.heap = w.heap ∧ w'.output = w.output ∧ w'.os = w.os := by
  rw [run_choose]
  split
  · exact ⟨0, w, rfl, rfl, rfl, rfl⟩
  · exact ⟨w.tape w.drawn q, _, rfl, rfl, rfl, rfl⟩

set_option maxHeartbeats 2000000 in
theorem r_next (hS : Sim G ρ S w) {it : VV} {it' : Value} {isString : Bool} {L : List (VV × St)} (ty : TypeId) (h : nextV S it isString = some L) (hi : VRel ρ it it') :
    ∃ v S', (v, S') ∈ L ∧ ∃ v' w', (Instr.next it' isString ty).run P w = .ok v' w' ∧ VRel ρ v v' ∧ Goes G ρ S w ρ S' w' := by
  unfold nextV at h
  split at h
  · rename_i r
    cases hi with
    | ptr hρ =>
      rename_i r' b n
      cases ho : S.h.get r with
      | none => simp [ho] at h
      | some o =>
        obtain ⟨q, bq, nq, o', h1, h2, h3⟩ := hS.obj r o ho
        rw [hρ] at h1
        cases h1
        cases h3 <;> simp only [ho, reduceCtorEq] at h
        case strIter hb s pos =>
          subst hb
          cases isString with
          | false => simp at h
          | true =>
            simp only [if_true] at h
            split at h
            · rename_i hp
              simp only [Tr.with_eq, Option.some.injEq] at h
              subst h
              have hs : (⟨s.data.toList.toArray⟩ : ByteArray) = s := by simp
              have hp' : pos < s.size := by simpa using hp
              refine ⟨_, _, List.mem_singleton.2 rfl, .tuple #[.bool true, goInt pos, .int .i32 (Utf8.decode s pos).1], _, ?_, ?_, Goes.update hS ho rfl hρ (.strIter rfl s (pos + (Utf8.decode s pos).2))⟩
              · simp only [Instr.next, Sem.run_bind, Nat.add_zero, getObj_run h2 (by simp), Result.andThen_ok, if_pos hp', setObj_put _ h2 (by simp), Sem.run_pure]
              · rw [hs]
                exact .tuple (.cons (.bool _) (.cons (.int _ _) (.cons (.int _ _) .nil)))
            · rename_i hp
              simp only [Option.some.injEq] at h
              subst h
              have hp' : ¬ pos < s.size := by simpa using hp
              exact ⟨_, _, List.mem_singleton.2 rfl, .tuple #[.bool false], w, by simp only [Instr.next, Sem.run_bind, Nat.add_zero, getObj_run h2 (by simp), Result.andThen_ok, if_neg hp', Sem.run_pure], .tuple (.cons (.bool _) .nil), .refl hS⟩
        case mapIterNil hb since stepped seen =>
          subst hb
          cases isString with
          | true => simp at h
          | false =>
            simp only [Bool.false_eq_true, if_false, Option.some.injEq] at h
            subst h
            exact ⟨_, _, List.mem_singleton.2 rfl, .tuple #[.bool false], w, by simp only [Instr.next, Sem.run_bind, Nat.add_zero, getObj_run h2 (by simp), Result.andThen_ok, Sem.run_pure], .tuple (.cons (.bool _) .nil), .refl hS⟩
        case mapIter m rm bm nm hb since stepped seen hm =>
          subst hb
          cases isString with
          | true => simp at h
          | false =>
            simp only [Bool.false_eq_true, if_false] at h
            cases hom : S.h.get m with
            | none => simp [hom] at h
            | some om =>
              cases om <;> simp only [hom, reduceCtorEq] at h
              rename_i es clock
              obtain ⟨es', hrm, he⟩ : ∃ es', w.heap[rm]? = some (.map es' clock) ∧ ERels ρ es es'.toList := by
                obtain ⟨q, bq, nq, o'', k1, k2, k3⟩ := hS.obj m _ hom
                rw [hm] at k1
                cases k1
                cases k3 with
                | map he => exact ⟨_, k2, he⟩
              split at h
              · cases h
              · rename_i hchk
                have e1 : es'.all (fun e => decide (e.born ≥ stepped)) = es.all (fun e => decide (stepped ≤ e.2.2)) := by
                  rw [← Array.all_toList]
                  exact he.all (p := fun b => decide (stepped ≤ b))
                have e2 : es'.isEmpty = es.isEmpty := by
                  have := he.length
                  cases es <;> simp_all [Array.isEmpty]
                have e3 : seen.isEmpty = seen.toList.isEmpty := by cases seen; simp
                have hchk' : (!seen.isEmpty && !es'.isEmpty && es'.all (fun e => decide (e.born ≥ stepped))) = false := by
                  rw [e1, e2, e3]
                  simpa using hchk
                have hl := leftV_rel (seen := seen) he
                have hleft : (es'.filter fun e => !seen.contains e.born).toList = es'.toList.filter fun e => !seen.contains e.born := by simp
                split at h
                · rename_i hnil
                  rw [hnil] at hl
                  simp only [Option.some.injEq] at h
                  subst h
                  have h0 : (es'.filter fun e => !seen.contains e.born) = #[] := by
                    apply Array.toList_inj.1
                    rw [hleft]
                    generalize es'.toList.filter (fun e => !seen.contains e.born) = q at hl
                    cases hl
                    rfl
                  refine ⟨_, _, List.mem_singleton.2 rfl, .tuple #[.bool false], w, ?_, .tuple (.cons (.bool _) .nil), Goes.drop hS r⟩
                  simp only [Instr.next, Sem.run_bind, Nat.add_zero, getObj_run h2 (by simp), getObj_run hrm (by simp), Result.andThen_ok, hchk', Bool.false_eq_true, if_false, h0]
                  simp [run_choose, Question.forced]
                · rename_i hne
                  split at h
                  · rename_i hall
                    simp only [Option.some.injEq] at h
                    subst h
                    have hold : ((es'.filter fun e => !seen.contains e.born).filter fun e => decide (e.born < since)) = es'.filter fun e => !seen.contains e.born := by
                      rw [Array.filter_eq_self]
                      intro e hmem
                      have := hl.all (p := fun b => decide (b < since))
                      rw [hall, List.all_eq_true] at this
                      exact this e (by rw [← hleft]; exact Array.mem_toList_iff.2 hmem)
                    have hnew : ((es'.filter fun e => !seen.contains e.born).filter fun e => decide (e.born ≥ since)) = #[] := by
                      rw [Array.filter_eq_empty_iff]
                      intro e hmem
                      have := hl.all (p := fun b => decide (b < since))
                      rw [hall, List.all_eq_true] at this
                      have := this e (by rw [← hleft]; exact Array.mem_toList_iff.2 hmem)
                      simp only [decide_eq_true_eq] at this ⊢
                      omega
                    have hpos : (es'.filter fun e => !seen.contains e.born).size ≠ 0 := by
                      intro q
                      have q2 := hl.length
                      rw [← hleft, Array.length_toList, q] at q2
                      exact hne (List.length_eq_zero_iff.1 q2.symm)
                    have hemp : (es'.filter fun e => !seen.contains e.born).isEmpty = false := by
                      simpa [Array.isEmpty] using hpos
                    obtain ⟨t, w1, hc1, hc2, hc3, hc4⟩ := r_choose (P := P) (.mapNext (es'.filter fun e => !seen.contains e.born).size) w
                    have hidx : (if (Question.mapNext (es'.filter fun e => !seen.contains e.born).size).forced then 0 else (Question.mapNext (es'.filter fun e => !seen.contains e.born).size).cut t) < (es'.filter fun e => !seen.contains e.born).size := by
                      split
                      · omega
                      · exact Nat.mod_lt _ (by omega)
                    generalize hix : (if (Question.mapNext (es'.filter fun e => !seen.contains e.born).size).forced then 0 else (Question.mapNext (es'.filter fun e => !seen.contains e.born).size).cut t) = ix at hc1 hidx
                    have hgi : (es'.filter fun e => !seen.contains e.born)[ix]? = some (es'.filter fun e => !seen.contains e.born)[ix] := Array.getElem?_eq_getElem hidx
                    obtain ⟨k, v, g1, g2, g3⟩ := hl.get' (i := ix) (e := (es'.filter fun e => !seen.contains e.born)[ix]) (by rw [← hleft, Array.getElem?_toList, hgi])
                    have hS1 := (Goes.same hS hc2 hc3 hc4)
                    have h2' : w1.heap[r']? = some (.mapIter (some rm) since seen stepped) := by rw [hc2]; exact h2
                    have hup := Goes.update (onew := .mapIter (some m) since (seen.toList ++ [(es'.filter fun e => !seen.contains e.born)[ix].born]) clock) (onew' := .mapIter (some rm) since (seen.push (es'.filter fun e => !seen.contains e.born)[ix].born) clock) hS1.sim ho rfl hρ (by
                      have := ORel.mapIter (ρ := ρ) (b := 0) (n := n) rfl since clock (seen.push (es'.filter fun e => !seen.contains e.born)[ix].born) hm
                      simpa using this)
                    refine ⟨_, _, List.mem_map.2 ⟨_, List.mem_of_getElem? g1, rfl⟩, .tuple #[.bool true, (es'.filter fun e => !seen.contains e.born)[ix].key, (es'.filter fun e => !seen.contains e.born)[ix].val], _, ?_, .tuple (.cons (.bool _) (.cons g2 (.cons g3 .nil))), hS1.trans hup⟩
                    simp only [Instr.next, Sem.run_bind, Nat.add_zero, getObj_run h2 (by simp), getObj_run hrm (by simp), Result.andThen_ok, hchk', Bool.false_eq_true, if_false, hold, hnew, hemp, Array.append_empty, Array.empty_append, Array.size_map, hc1]
                    simp only [Array.getElem?_map, hgi, Option.map_some, Sem.run_bind, setObj_put _ h2' (by simp), Result.andThen_ok, Sem.run_pure]
                  · cases h
  · cases h

end Go.Vm

/-
  A virtual semantics of the model's code (15): memory made and written.
-/
namespace Go.Vm
variable {P : Program} {G : Nat} {ρ : Ren} {S : St} {w : World}

theorem entryOf_rel {stamp : Nat} {l : List (VV × VV × Nat)} {l' : List MapEntry} (he : ERels ρ l l') : ∀ {v : VV}, entryOf stamp l = some v → ∃ e, l'.find? (·.born == stamp) = some e ∧ VRel ρ v (.tuple #[e.key, e.val]) := by
  induction he with
  | nil => intro v h; simp [entryOf] at h
  | cons hk hv t ih =>
    rename_i k vv k' vv' b l l'
    intro v h
    simp only [entryOf] at h
    rw [List.find?_cons]
    cases hb : b == stamp with
    | true =>
      simp only [hb, if_true, Option.some.injEq] at h
      subst h
      exact ⟨_, rfl, .tuple (.cons hk (.cons hv .nil))⟩
    | false =>
      simp only [hb, Bool.false_eq_true, if_false] at h
      exact ih h

theorem r_entry (hS : Sim G ρ S w) {it v : VV} {it' : Value} (h : entryV S it = some v) (hi : VRel ρ it it') : ∃ v', (Instr.entry it').run P w = .ok v' w ∧ VRel ρ v v' := by
  unfold entryV at h
  split at h
  · rename_i r
    cases hi with
    | ptr hρ =>
      rename_i r' b n
      cases ho : S.h.get r with
      | none => simp [ho] at h
      | some o =>
        obtain ⟨q, bq, nq, o', h1, h2, h3⟩ := hS.obj r o ho
        rw [hρ] at h1
        cases h1
        cases h3 <;> simp only [ho, reduceCtorEq] at h
        rename_i m rm bm nm hb since stepped seen hm
        subst hb
        cases hl : seen.toList.getLast? with
        | none => simp [hl] at h
        | some stamp =>
          cases hom : S.h.get m with
          | none => simp [hl, hom] at h
          | some om =>
            cases om <;> simp only [hl, hom, reduceCtorEq] at h
            rename_i es clock
            split at h
            · rename_i hc
              subst hc
              obtain ⟨q, bq, nq, o'', k1, k2, k3⟩ := hS.obj m _ hom
              rw [hm] at k1
              cases k1
              cases k3 with
              | map he =>
                rename_i es'
                obtain ⟨e, e1, e2⟩ := entryOf_rel he h
                have hback : seen.back? = some stamp := by
                  rw [← hl]; simp [Array.back?, List.getLast?_eq_getElem?]
                have hfind : es'.find? (·.born == stamp) = some e := by
                  rw [← Array.find?_toList]; exact e1
                refine ⟨_, ?_, e2⟩
                simp only [Instr.entry, Sem.run_bind, Nat.add_zero, getObj_run h2 (by simp), getObj_run k2 (by simp), Result.andThen_ok, hback, bne_self_eq_false, Bool.false_eq_true, if_false, hfind, Sem.run_pure]
            · cases h
  · cases h

theorem r_typeAssert {x v : VV} {x' : Value} {xt t : TypeId} {ok : Bool} (h : typeAssertV P x t ok = some v) (hx : VRel ρ x x') (w : World) : ∃ v', (Instr.typeAssert x' xt t ok).run P w = .ok v' w ∧ VRel ρ v v' := by
  unfold typeAssertV at h
  -- the zero that a failing assertion answers
  have hz : ∀ {u : VV}, (if ok then (match zeroV P t with | some z => some (VV.tuple [z, .bool false]) | none => none) else none) = some u →
      ok = true ∧ ∃ z', (∀ w, (zeroValue t).run P w = .ok z' w) ∧ VRel ρ u (.tuple #[z', .bool false]) := by
    intro u hu
    cases ok with
    | false => simp at hu
    | true =>
      simp only [if_true] at hu
      cases hz : zeroV P t with
      | none => simp [hz] at hu
      | some z =>
        obtain ⟨z', rz, ez⟩ := r_zeroValue hz
        simp only [hz, Option.some.injEq] at hu
        subst hu
        exact ⟨rfl, z', rz, .tuple (.cons (by rw [ez]; exact ofValue_rel ρ z') (.cons (.bool _) .nil))⟩
  cases hu : P.underlying t with
  | none => simp [hu] at h
  | some d =>
    cases hx <;> try (cases d <;> simp only [hu, reduceCtorEq] at h; done)
    case nilIface =>
      cases d <;> simp only [hu] at h
      all_goals
        obtain ⟨rfl, z', rz, hr⟩ := hz h
        exact ⟨_, by simp [Instr.typeAssert, r_underlying hu, rz], hr⟩
    case iface t0 v0 v0' hv =>
      cases d
      case interface want =>
        simp only [hu] at h
        cases hi : P.info? t0 with
        | none => simp [hi] at h
        | some i =>
          simp only [hi] at h
          cases hm : Instr.missingMethod want i.methods with
          | none =>
            simp only [hm, Option.some.injEq] at h
            subst h
            exact ⟨if ok then .tuple #[.iface t0 v0', .bool true] else .iface t0 v0', by simp [Instr.typeAssert, r_underlying hu, r_typeInfo hi, hm], by cases ok <;> first | exact .iface _ hv | exact .tuple (.cons (.iface _ hv) (.cons (.bool _) .nil))⟩
          | some s =>
            simp only [hm] at h
            obtain ⟨rfl, z', rz, hr⟩ := hz h
            exact ⟨_, by simp [Instr.typeAssert, r_underlying hu, r_typeInfo hi, hm, rz], hr⟩
      all_goals
        simp only [hu] at h
        split at h
        · rename_i ht
          simp only [Option.some.injEq] at h
          subst h
          exact ⟨if ok then .tuple #[v0', .bool true] else v0', by simp [Instr.typeAssert, r_underlying hu, ht], by cases ok <;> first | exact hv | exact .tuple (.cons hv (.cons (.bool _) .nil))⟩
        · rename_i ht
          obtain ⟨rfl, z', rz, hr⟩ := hz h
          exact ⟨_, by simp [Instr.typeAssert, r_underlying hu, ht, rz], hr⟩

theorem r_box (hS : Sim G ρ S w) {t : TypeId} {v u : VV} {v' : Value} {S' : St} (h : boxV S t v = some (u, S')) (hv : VRel ρ v v') :
    ∃ ρ' u' w', (do pure (.pointer (some (← newVar t v'))) : Sem Value).run P w = .ok u' w' ∧ VRel ρ' u u' ∧ Goes G ρ S w ρ' S' w' := by
  unfold boxV at h
  cases hc : cellsV v with
  | none => simp [hc] at h
  | some cs =>
    simp only [hc] at h
    cases hn : newRowV S cs cs.length t false with
    | none => simp [hn] at h
    | some q =>
      obtain ⟨r, S1⟩ := q
      simp only [hn, Option.some.injEq, Prod.mk.injEq] at h
      obtain ⟨rfl, rfl⟩ := h
      obtain ⟨ρ', rfl, e2, e3, e4⟩ := r_newRow (P := P) hS hn (cellsV_rel hc hv) rfl
      exact ⟨ρ', _, _, by simp only [newVar, Sem.run_bind, e3, Result.andThen_ok, Sem.run_pure], .ptr (b := 0) (off := 0) e2, e4⟩

theorem r_alloc (hS : Sim G ρ S w) {t : TypeId} {u : VV} {S' : St} (h : allocV P S t = some (u, S')) :
    ∃ ρ' u' w', (Instr.alloc t true (.tuple #[])).run P w = .ok u' w' ∧ VRel ρ' u u' ∧ Goes G ρ S w ρ' S' w' := by
  unfold allocV at h
  cases hz : zeroV P t with
  | none => simp [hz] at h
  | some z =>
    obtain ⟨z', rz, ez⟩ := r_zeroValue hz
    simp only [hz] at h
    obtain ⟨ρ', u', w', e1, e2, e3⟩ := r_box (P := P) hS h (v' := z') (by rw [ez]; exact ofValue_rel ρ z')
    exact ⟨ρ', u', w', by simp only [Instr.alloc, Sem.run_bind, rz, Result.andThen_ok]; exact e1, e2, e3⟩

theorem zerosV_rel {z : List VV} {z' : Array Value} (hz : VRels ρ z z'.toList) (hne : z ≠ []) (n : Nat) : VRels ρ (zerosV z n) ((Array.range n).map (z'[· % z'.size]!)).toList := by
  have hl := hz.length
  simp only [Array.length_toList] at hl
  simp only [zerosV, Array.toList_map, Array.toList_range]
  refine VRels.map _ fun i _ => ?_
  have hpos : 0 < z.length := by cases z <;> simp_all
  have hi : i % z.length < z.length := Nat.mod_lt _ hpos
  rw [hl, List.getD_eq_getElem?_getD, List.getElem?_eq_getElem hi, Option.getD_some]
  obtain ⟨v', e1, e2⟩ := hz.get (List.getElem?_eq_getElem hi)
  have : z'[i % z.length]! = v' := by
    rw [Array.getElem?_toList] at e1
    rw [getElem!_def, e1]
  rw [this]
  exact e2

theorem r_zeroRow {e : TypeId} {n : Nat} {row : List VV} (h : zeroRowV P e n = some row) (ρ : Ren) : row.length = n ∧
    ∃ row' : Array Value, VRels ρ row row'.toList ∧ ((n = 0 ∧ row' = #[]) ∨ n ≠ 0 ∧ ∃ z : Value, (∀ w, (zeroValue e).run P w = .ok z w) ∧ (Array.range n).map (z.cells[· % z.cells.size]!) = row') := by
  cases n with
  | zero =>
    simp only [zeroRowV, Option.some.injEq] at h
    subst h
    exact ⟨rfl, #[], .nil, .inl ⟨rfl, rfl⟩⟩
  | succ n =>
    simp only [zeroRowV] at h
    cases hz : zeroV P e with
    | none => simp [hz] at h
    | some z =>
      obtain ⟨z', rz, ez⟩ := r_zeroValue hz
      simp only [hz] at h
      split at h
      · rename_i c cs hc
        simp only [Option.some.injEq] at h
        subst h
        have hzr : VRels ρ (c :: cs) z'.cells.toList := cellsV_rel hc (by rw [ez]; exact ofValue_rel ρ z')
        exact ⟨by simp [zerosV], _, zerosV_rel hzr (by simp) (n + 1), .inr ⟨Nat.succ_ne_zero n, z', rz, rfl⟩⟩
      · cases h

theorem r_buildSlice (hS : Sim G ρ S w) {t : TypeId} {len : Nat} {parts : List (Nat × VV)} {parts' : Array (Nat × Value)} {u : VV} {S' : St} (h : buildSliceV P S t len parts = some (u, S')) (hp : PRels ρ parts parts'.toList) :
    ∃ ρ' u' w', (Instr.buildSlice t len parts').run P w = .ok u' w' ∧ VRel ρ' u u' ∧ Goes G ρ S w ρ' S' w' := by
  unfold buildSliceV at h
  cases hu : P.underlying t with
  | none => simp [hu] at h
  | some d =>
    cases d <;> simp only [hu, reduceCtorEq] at h
    rename_i e
    cases hs : sizeV P e with
    | none => simp [hs] at h
    | some size =>
      simp only [hs] at h
      split at h
      · rename_i hle
        cases hz : zeroRowV P e (len * size) with
        | none => simp [hz] at h
        | some row =>
          obtain ⟨hrl, row', hrr, hrun⟩ := r_zeroRow hz ρ
          simp only [hz] at h
          cases hf : fillV (fun i => some (i * size, size)) row parts with
          | none => simp [hf] at h
          | some cs =>
            simp only [hf] at h
            obtain ⟨r', f1, f2⟩ := fillV_rel (place' := fun i => some (i * size, size)) (fun i => rfl) hf hp hrr
            cases hn : newRowV S cs (len * size) e false with
            | none => simp [hn] at h
            | some q =>
              obtain ⟨r, S1⟩ := q
              simp only [hn, Option.some.injEq, Prod.mk.injEq] at h
              obtain ⟨rfl, rfl⟩ := h
              have hlen : ∀ {pl : Nat → Option (Nat × Nat)} {ps : List (Nat × VV)} {c d : List VV}, fillV pl c ps = some d → d.length = c.length := by
                intro pl ps
                induction ps with
                | nil => intro c d hh; simp only [fillV, Option.some.injEq] at hh; rw [hh]
                | cons p ps ih =>
                  intro c d hh
                  obtain ⟨i, v⟩ := p
                  simp only [fillV] at hh
                  split at hh
                  · split at hh
                    · rename_i hq
                      rw [ih hh]
                      simp
                      omega
                    · cases hh
                  · cases hh
              obtain ⟨ρ', rfl, e2, e3, e4⟩ := r_newRow (P := P) hS hn f2 (by rw [hlen hf, hrl])
              refine ⟨ρ', _, _, ?_, .slice (b := 0) (off := 0) len len e2, e4⟩
              rcases hrun with ⟨h0, rfl⟩ | ⟨h0, z, rz, hz2⟩
              · have e5 : (Array.range (len * size)).map (fun i => (#[] : Array Value)[i % (#[] : Array Value).size]!) = #[] := by rw [h0]; simp
                simp only [Instr.buildSlice, Sem.run_bind, r_underlying hu, Result.andThen_ok, r_sizeOf hs, if_neg (show ¬ len * size > 2 ^ 24 by omega), if_pos h0, Sem.run_pure, e5, f1, e3, Nat.zero_add]
              · simp only [Instr.buildSlice, Sem.run_bind, r_underlying hu, Result.andThen_ok, r_sizeOf hs, if_neg (show ¬ len * size > 2 ^ 24 by omega), if_neg h0, rz, Sem.run_pure, hz2, f1, e3, Nat.zero_add]
      · cases h

theorem r_storeVar (hS : Sim G ρ S w) {t : TypeId} {a v u : VV} {a' v' : Value} {S' : St} (h : storeVarV P S t a v = some (u, S')) (ha : VRel ρ a a') (hv : VRel ρ v v') :
    u = undefV ∧ ∃ w', (Instr.storeAt t a' v').run P w = .ok () w' ∧ Goes G ρ S w ρ S' w' := by
  unfold storeVarV at h
  cases ha <;> try (simp only [reduceCtorEq] at h; done)
  rename_i id r b n off hρ
  cases hc : cellsV v with
  | none => simp [hc] at h
  | some cs =>
    cases hs : sizeV P t with
    | none => simp [hc, hs] at h
    | some z =>
      simp only [hc, hs] at h
      split at h
      · rename_i hl
        cases hst : storeV S id off cs with
        | none => simp [hst] at h
        | some S1 =>
          simp only [hst, Option.some.injEq, Prod.mk.injEq] at h
          obtain ⟨rfl, rfl⟩ := h
          have hr := cellsV_rel hc hv
          obtain ⟨w', e1, e2⟩ := r_storeV (P := P) hS hst hr hρ
          have hl' : v'.cells.size = z := by
            have := hr.length
            simp only [Array.length_toList] at this
            omega
          exact ⟨rfl, w', by simp [Instr.storeAt, Instr.sureAddr, storeVar, r_sizeOf hs, hl', e1], e2⟩
      · cases h

theorem r_makeMap (hS : Sim G ρ S w) {t : TypeId} {r : Option VV} {r' : Option Value} {u : VV} {S' : St} (h : makeMapV P S t r = some (u, S')) (hr : OptRel ρ r r') :
    ∃ ρ' u' w', (Instr.makeMap t r').run P w = .ok u' w' ∧ VRel ρ' u u' ∧ Goes G ρ S w ρ' S' w' := by
  have key : Goes G ρ S w (ρ.add S.nx (w.heap.size, 0, 0)) { h := S.h.set S.nx (.map [] 0), nx := S.nx + 1 } (World.add w (.map #[] 0)) := Goes.alloc hS 0 _ _ fun ρ' _ => .map .nil
  have hvr : VRel (ρ.add S.nx (w.heap.size, 0, 0)) (.map (some S.nx)) (.map (some w.heap.size)) := .map (b := 0) (n := 0) (by simp [Ren.add])
  unfold makeMapV at h
  cases hr with
  | none =>
    simp only [Tr.with_eq, Option.some.injEq, Prod.mk.injEq] at h
    obtain ⟨rfl, rfl⟩ := h
    exact ⟨_, _, _, rfl, hvr, key⟩
  | some hv =>
    cases hv <;> simp only [reduceCtorEq] at h
    cases hu : P.underlying t with
    | none => simp [hu] at h
    | some d =>
      cases d <;> simp only [hu, reduceCtorEq] at h
      simp only [Tr.with_eq, Option.some.injEq, Prod.mk.injEq] at h
      obtain ⟨rfl, rfl⟩ := h
      exact ⟨_, _, _, by simp only [Instr.makeMap, Sem.run_bind, r_underlying hu, Result.andThen_ok, asInt, asIntOf, Sem.run_pure, run_newObj]; rfl, hvr, key⟩

end Go.Vm

/-
  A virtual semantics of the model's code (16): slices made, appended to, copied; conversions.
-/
namespace Go.Vm
variable {P : Program} {G : Nat} {ρ : Ren} {S : St} {w : World}

theorem wrap_ofNat_nonneg {k : IntKind} {n : Int} (h : 0 ≤ k.wrap n) : ((k.wrap n).toNat : Int) = k.wrap n := Int.toNat_of_nonneg h

theorem r_makeSlice (hS : Sim G ρ S w) {t : TypeId} {l c u : VV} {l' c' : Value} {S' : St} (h : makeSliceV P S t l c = some (u, S')) (hl : VRel ρ l l') (hc : VRel ρ c c') :
    ∃ ρ' u' w', (Instr.makeSlice t l' c').run P w = .ok u' w' ∧ VRel ρ' u u' ∧ Goes G ρ S w ρ' S' w' := by
  unfold makeSliceV at h
  cases hu : P.underlying t with
  | none => simp [hu] at h
  | some d =>
    cases d <;> simp only [hu, reduceCtorEq] at h
    rename_i e
    cases hl <;> try (simp only [reduceCtorEq] at h; done)
    cases hc <;> try (simp only [reduceCtorEq] at h; done)
    rename_i k l0 k2 c0
    simp only at h
    cases hs : sizeV P e with
    | none => simp [hs] at h
    | some size =>
      cases hb : bytesV P e with
      | none => simp [hs, hb] at h
      | some bytes =>
        obtain ⟨i, hi, hib⟩ := bytesV_info hb
        simp only [hs, hb] at h
        split at h
        · rename_i hcond
          obtain ⟨h1, h2, h3⟩ := hcond
          cases hz : zeroRowV P e ((IntKind.i64.wrap c0).toNat * size) with
          | none => simp [hz] at h
          | some row =>
            obtain ⟨hrl, row', hrr, hrun⟩ := r_zeroRow hz ρ
            simp only [hz] at h
            cases hn : newRowV S row ((IntKind.i64.wrap c0).toNat * size) e false with
            | none => simp [hn] at h
            | some q =>
              obtain ⟨r, S1⟩ := q
              simp only [hn, Option.some.injEq, Prod.mk.injEq] at h
              obtain ⟨rfl, rfl⟩ := h
              obtain ⟨ρ', rfl, e2, e3, e4⟩ := r_newRow (P := P) hS hn hrr hrl
              refine ⟨ρ', _, _, ?_, .slice (b := 0) (off := 0) _ _ e2, e4⟩
              have hx : (((decide (IntKind.i64.wrap c0 < 0) || decide ((i.bytes : Int) * IntKind.i64.wrap c0 > 2 ^ 48)) || decide (IntKind.i64.wrap l0 < 0) || decide (IntKind.i64.wrap l0 > IntKind.i64.wrap c0))) = false := by
                have q1 : ¬ (IntKind.i64.wrap c0 < 0) := by omega
                have q3 : ¬ (IntKind.i64.wrap l0 < 0) := by omega
                have q4 : ¬ (IntKind.i64.wrap l0 > IntKind.i64.wrap c0) := by omega
                simp [q1, q3, q4]
                rw [hib]; exact h3
              rcases hrun with ⟨h0, rfl⟩ | ⟨h0, z, rz, hz2⟩
              · have e5 : (Array.range ((IntKind.i64.wrap c0).toNat * size)).map (fun i => (#[] : Array Value)[i % (#[] : Array Value).size]!) = #[] := by rw [h0]; simp
                simp only [Instr.makeSlice, Sem.run_bind, r_underlying hu, Result.andThen_ok, asInt, asIntOf, Sem.run_pure, r_typeInfo hi, hx, Bool.false_eq_true, if_false, run_askRoom, r_sizeOf hs, if_pos h0, e5, e3, Nat.zero_add]
              · simp only [Instr.makeSlice, Sem.run_bind, r_underlying hu, Result.andThen_ok, asInt, asIntOf, Sem.run_pure, r_typeInfo hi, hx, Bool.false_eq_true, if_false, run_askRoom, r_sizeOf hs, if_neg h0, rz, hz2, e3, Nat.zero_add]
        · cases h

/- what is appended -/
theorem r_lenOf {x : VV} {x' : Value} {n : Nat} (h : lenOfV x = some n) (hx : VRel ρ x x') (w : World) : (Builtin.lenOf x').run P w = .ok n w := by
  cases hx <;> simp only [lenOfV, Option.some.injEq, reduceCtorEq] at h <;> subst h <;> simp [Builtin.lenOf]

theorem cellsOfBytes_rel (s : List UInt8) : VRels ρ (cellsOfBytes s) (s.map fun b => Value.int .u8 b.toNat) := VRels.map s fun b _ => .int _ _

theorem loadV_length {id off k : Nat} {l : List VV} (h : loadV S id off k = some l) : l.length = k := by
  unfold loadV at h
  split at h
  · exact ((Tr.row_spec _ _ _ _).1 h).1
  · cases h

theorem r_first (hS : Sim G ρ S w) {x : VV} {x' : Value} {size n : Nat} {l : List VV} (h : firstV S size n x = some l) (hx : VRel ρ x x') (hn : ∀ m, lenOfV x = some m → n ≤ m) :
    ∃ l' : List Value, VRels ρ l l' ∧ (Builtin.firstCells size n x').run P w = .ok l'.toArray w ∧ l.length = n * size := by
  cases hx <;> simp only [firstV, reduceCtorEq] at h
  case str s =>
    split at h
    · simp only [Option.some.injEq] at h
      subst h
      refine ⟨_, cellsOfBytes_rel _, ?_, ?_⟩
      · simp only [Builtin.firstCells, Sem.run_pure, Result.ok.injEq, and_true]
        apply Array.toList_inj.1
        simp [ByteArray.data_extract, Array.toList_extract, List.extract_eq_take_drop]
      · have := hn _ rfl
        simp only [Array.length_toList] at this
        have h2 : s.size = s.data.size := rfl
        simp [cellsOfBytes]
        omega
    · cases h
  case nilSlice m c =>
    split at h
    · rename_i h0
      simp only [Option.some.injEq] at h
      subst h
      exact ⟨[], .nil, rfl, by simp [h0]⟩
    · cases h
  case slice id r b k off len c hρ =>
    cases hk : n * size with
    | zero =>
      simp only [hk, Option.some.injEq] at h
      subst h
      exact ⟨[], .nil, by simp only [Builtin.firstCells, hk]; rfl, rfl⟩
    | succ q =>
      simp only [hk] at h
      obtain ⟨r1, b1, n1, e1, l', e2, e3⟩ := r_loadCells (P := P) hS h
      rw [hρ] at e1
      cases e1
      exact ⟨l', e2, by simp only [Builtin.firstCells, hk]; exact e3 _ rfl, loadV_length h⟩
  case rest id r b k off len c z hρ hc hl =>
    cases hk : n * size with
    | zero =>
      simp only [hk, Option.some.injEq] at h
      subst h
      exact ⟨[], .nil, by simp only [Builtin.firstCells, hk]; rfl, rfl⟩
    | succ q =>
      simp only [hk] at h
      obtain ⟨r1, b1, n1, e1, l', e2, e3⟩ := r_loadCells (P := P) hS h
      rw [hρ] at e1
      cases e1
      exact ⟨l', e2, by simp only [Builtin.firstCells, hk]; exact e3 _ rfl, loadV_length h⟩
  case restEnd id r b k off off' z hρ =>
    have h0 : n = 0 := by have := hn 0 rfl; omega
    subst h0
    simp only [Nat.zero_mul, Option.some.injEq] at h
    subst h
    exact ⟨[], .nil, by simp only [Builtin.firstCells, Nat.zero_mul]; rfl, by simp⟩
  case sliceEnd id r b k off off' hρ =>
    have h0 : n = 0 := by have := hn 0 rfl; omega
    subst h0
    simp only [Nat.zero_mul, Option.some.injEq] at h
    subst h
    exact ⟨[], .nil, by simp only [Builtin.firstCells, Nat.zero_mul]; rfl, by simp⟩

theorem storeV_nil {id off : Nat} : storeV S id off [] = some S := rfl

theorem r_copy (hS : Sim G ρ S w) {ts : List TypeId} {args : List VV} {args' : Array Value} {u : VV} {S' : St} (ty : TypeId) (h : copyV P S ts args = some (u, S')) (ha : VRels ρ args args'.toList) :
    ∃ u' w', (Builtin.copy_ ts.toArray ty args').run P w = .ok u' w' ∧ VRel ρ u u' ∧ Goes G ρ S w ρ S' w' := by
  unfold copyV at h
  split at h
  · rename_i t ts0 base n cap x
    obtain ⟨args'⟩ := args'
    change VRels ρ _ args' at ha
    cases ha with
    | cons hd ht =>
      cases ht with
      | cons hx ht =>
        cases ht
        rename_i d' x'
        cases hu : P.underlying t with
        | none => simp [hu] at h
        | some d =>
          cases d <;> simp only [hu, reduceCtorEq] at h
          rename_i e
          cases hs : sizeV P e with
          | none => simp [hs] at h
          | some size =>
            cases hl : lenOfV x with
            | none => simp [hs, hl] at h
            | some m =>
              simp only [hs, hl] at h
              have hlen := r_lenOf (P := P) hl hx w
              cases hf : firstV S size (Nat.min m n) x with
              | none => simp [hf] at h
              | some new =>
                obtain ⟨l', e1, e2, e3⟩ := r_first (P := P) hS hf hx (fun q hq => by rw [hl] at hq; cases hq; exact Nat.min_le_left _ _)
                simp only [hf] at h
                -- the destination
                cases base with
                | none =>
                  simp only [Option.some.injEq, Prod.mk.injEq] at h
                  obtain ⟨rfl, rfl⟩ := h
                  cases hd
                  exact ⟨goInt (Nat.min m n), w, by simp [Builtin.copy_, r_underlying hu, hlen, r_sizeOf hs, e2], .int _ _, .refl hS⟩
                | some p =>
                  obtain ⟨id, off⟩ := p
                  simp only at h
                  cases hst : storeV S id off new with
                  | none => simp [hst] at h
                  | some S1 =>
                    simp only [hst, Option.some.injEq, Prod.mk.injEq] at h
                    obtain ⟨rfl, rfl⟩ := h
                    cases hd
                    case slice r b k c hρ =>
                      obtain ⟨w', f1, f2⟩ := r_storeV (P := P) hS hst e1 hρ
                      exact ⟨goInt (Nat.min m n), w', by simp [Builtin.copy_, r_underlying hu, hlen, r_sizeOf hs, e2, f1], .int _ _, f2⟩
                    case rest r b k c z hρ hc hl =>
                      obtain ⟨w', f1, f2⟩ := r_storeV (P := P) hS hst e1 hρ
                      exact ⟨goInt (Nat.min m n), w', by simp [Builtin.copy_, r_underlying hu, hlen, r_sizeOf hs, e2, f1], .int _ _, f2⟩
                    case restEnd r b k off' z hρ =>
                      have h0 : new = [] := List.length_eq_zero_iff.1 (by rw [e3]; simp [Nat.min])
                      subst h0
                      cases e1
                      simp only [storeV, Option.some.injEq] at hst
                      subst hst
                      have e2' : (Builtin.firstCells size 0 x').run P w = .ok #[] w := by simpa using e2
                      exact ⟨goInt (Nat.min m 0), w, by simp [Builtin.copy_, r_underlying hu, hlen, r_sizeOf hs, e2', storeCells], .int _ _, .refl hS⟩
                    case sliceEnd r b k off' hρ =>
                      have h0 : new = [] := List.length_eq_zero_iff.1 (by rw [e3]; simp [Nat.min])
                      subst h0
                      cases e1
                      simp only [storeV, Option.some.injEq] at hst
                      subst hst
                      have e2' : (Builtin.firstCells size 0 x').run P w = .ok #[] w := by simpa using e2
                      exact ⟨goInt (Nat.min m 0), w, by simp [Builtin.copy_, r_underlying hu, hlen, r_sizeOf hs, e2', storeCells], .int _ _, .refl hS⟩
  · cases h

end Go.Vm

/-
  A virtual semantics of the model's code (17): append.
-/
namespace Go.Vm
variable {P : Program} {G : Nat} {ρ : Ren} {S : St} {w : World}

theorem growBy_le (n : Nat) : ∀ r c, c < n → Builtin.growBy n r c ≤ n + (n + 768) / 4 := by
  intro r
  induction r with
  | zero => intro c h; simp only [Builtin.growBy]; omega
  | succ r ih =>
    intro c h
    simp only [Builtin.growBy]
    rw [if_neg (by omega)]
    by_cases h2 : c + (c + 768) / 4 < n
    · exact ih _ h2
    · cases r with
      | zero => simp only [Builtin.growBy]; omega
      | succ r => simp only [Builtin.growBy]; rw [if_pos (by omega)]; omega

theorem nextcap_le {n c : Nat} (h : c < n) : Builtin.nextslicecap n c ≤ 2 * n + 1000 := by
  unfold Builtin.nextslicecap
  split
  · omega
  · split
    · omega
    · have := growBy_le n 4 c h
      omega

theorem zeroOk_run {e : TypeId} {size : Nat} (h : zeroOk P e size = true) : ∃ z : Value, (∀ w, (zeroValue e).run P w = .ok z w) ∧ z.cells.size = size := by
  unfold zeroOk at h
  cases hz : zeroV P e with
  | none => simp [hz] at h
  | some z =>
    obtain ⟨z', rz, ez⟩ := r_zeroValue hz
    cases hc : cellsV z with
    | none => simp [hz, hc] at h
    | some cs =>
      simp only [hz, hc, beq_iff_eq] at h
      have hr : VRels (fun _ => none) cs z'.cells.toList := cellsV_rel hc (by rw [ez]; exact ofValue_rel _ z')
      refine ⟨z', rz, ?_⟩
      have := hr.length
      simp only [Array.length_toList] at this
      omega

/-- what the model appends -/
def appendedM (zeros : Bool) (elem : TypeId) (size n : Nat) (x : Value) : Sem (Array Value) :=
  if !zeros then Builtin.firstCells size n x
  else if n * size = 0 then pure #[]
  else do pure (Builtin.zeroCells (← zeroValue elem).cells n)

/-- the model's count of what is appended comes to m -/
def CountM (P : Program) (w : World) (z : Bool) (x : Value) (bytes m : Nat) : Prop :=
  match z with
  | true => ∃ k l, x = .int k l ∧ 0 ≤ IntKind.i64.wrap l ∧ IntKind.i64.wrap l * bytes ≤ 281474976710656 ∧ m = (IntKind.i64.wrap l).toNat
  | false => (Builtin.lenOf x).run P w = .ok m w

def isIntD : TypeDesc → Bool
  | .int _ => true
  | _ => false

set_option maxHeartbeats 4000000 in
theorem append_in {t xt e : TypeId} {d : TypeDesc} {size bytes m : Nat} {z : Bool} (ty : TypeId) {base : Option Addr} {n cap : Nat} {x : Value} {new : Array Value} {w' : World} (hu : P.underlying t = some (.slice e)) (hx : P.underlying xt = some d)
    (hs : sizeV P e = some size) {i : TypeInfo} (hi : P.info? e = some i) (hb : i.bytes = bytes) (hz : isIntD d = z) (hc : CountM P w z x bytes m) (ha : (appendedM z e size m x).run P w = .ok new w) (hle : n + m ≤ cap)
    (hst : (match base with | some a => storeCells (a.add (n * size)) new.toList | none => pure ()).run P w = .ok () w') :
    (Builtin.append_ #[t, xt] ty #[.slice base n cap, x]).run P w = .ok (.slice base (n + m) cap) w' := by
  cases z with
  | false =>
    simp only [CountM] at hc
    simp only [appendedM, Bool.not_false, if_true] at ha
    have hd : ∀ k, d ≠ .int k := by rintro k rfl; simp [isIntD] at hz
    cases d <;> first | (exact absurd rfl (hd _)) | skip
    all_goals
      cases base with
      | none =>
        simp only [Sem.run_pure, Result.ok.injEq, true_and] at hst
        subst hst
        simp only [Builtin.append_, Sem.run_bind, List.getElem?_toArray, List.getElem?_cons_zero, List.getElem?_cons_succ, r_underlying hu, Result.andThen_ok, r_sizeOf hs, r_underlying hx, Sem.run_pure, hc, Bool.false_eq_true, if_false, if_pos hle, Bool.not_false, if_true, ha]
      | some a =>
        simp only at hst
        simp only [Builtin.append_, Sem.run_bind, List.getElem?_toArray, List.getElem?_cons_zero, List.getElem?_cons_succ, r_underlying hu, Result.andThen_ok, r_sizeOf hs, r_underlying hx, Sem.run_pure, hc, Bool.false_eq_true, if_false, if_pos hle, Bool.not_false, if_true, ha, hst]
  | true =>
    obtain ⟨k, l, rfl, h1, h2, rfl⟩ := hc
    cases d <;> try (simp [isIntD] at hz; done)
    simp only [appendedM, Bool.not_true, Bool.false_eq_true, if_false] at ha
    have q1 : ¬ IntKind.i64.wrap l < 0 := by omega
    have q2 : ¬ (IntKind.i64.wrap l * (i.bytes : Int) > 2 ^ 48) := by
      rw [hb]
      have : (2 ^ 48 : Int) = 281474976710656 := by decide
      omega
    cases base with
    | none =>
      simp only [Sem.run_pure, Result.ok.injEq, true_and] at hst
      subst hst
      simp only [Builtin.append_, Sem.run_bind, List.getElem?_toArray, List.getElem?_cons_zero, List.getElem?_cons_succ, r_underlying hu, Result.andThen_ok, r_sizeOf hs, r_underlying hx, Sem.run_pure, asInt, asIntOf, if_true, if_neg q1, r_typeInfo hi, if_neg q2, if_pos hle, Bool.not_true, Bool.false_eq_true, if_false]
      rw [ha]
      rfl
    | some a =>
      simp only at hst
      simp only [Builtin.append_, Sem.run_bind, List.getElem?_toArray, List.getElem?_cons_zero, List.getElem?_cons_succ, r_underlying hu, Result.andThen_ok, r_sizeOf hs, r_underlying hx, Sem.run_pure, asInt, asIntOf, if_true, if_neg q1, r_typeInfo hi, if_neg q2, if_pos hle, Bool.not_true, Bool.false_eq_true, if_false]
      rw [ha]
      simp only [Result.andThen_ok, hst]

set_option maxHeartbeats 4000000 in
theorem append_grow {t xt e : TypeId} {d : TypeDesc} {size bytes m : Nat} {z : Bool} (ty : TypeId) {base : Option Addr} {n cap : Nat} {x : Value} {old new : Array Value} (hu : P.underlying t = some (.slice e)) (hx : P.underlying xt = some d)
    (hs : sizeV P e = some size) {i : TypeInfo} (hi : P.info? e = some i) (hb : i.bytes = bytes) (hz : isIntD d = z) (hc : CountM P w z x bytes m)
    {zv : Value} (hzv : ∀ w, (zeroValue e).run P w = .ok zv w) (hgt : ¬ n + m ≤ cap) (hroom : roomV (n + m) bytes = true)
    (hold : ∀ w1 : World, w1.heap = w.heap → (Builtin.firstCells size n (.slice base n cap)).run P w1 = .ok old w1) (hnew : ∀ w1 : World, w1.heap = w.heap → (appendedM z e size m x).run P w1 = .ok new w1) :
    ∃ (nc : Nat) (w1 : World), n + m ≤ nc ∧ w1.heap = w.heap ∧ w1.output = w.output ∧ w1.os = w.os ∧
      (Builtin.append_ #[t, xt] ty #[.slice base n cap, x]).run P w = ((newRow e (old ++ new ++ Builtin.zeroCells zv.cells (nc - (n + m)))).run P w1).andThen fun a w2 => .ok (.slice (some a) (n + m) nc) w2 := by
  obtain ⟨tt, w1, hch, hh, ho, hos⟩ := r_choose (P := P) (.appendCap (n + m) cap e) w
  simp only [roomV, Bool.and_eq_true] at hroom
  have r1 := Nat.le_of_ble_eq_true hroom.1
  have r2 := Nat.le_of_ble_eq_true hroom.2
  have hmax : IntKind.i64.max = 9223372036854775807 := by decide
  have c1 : ¬ (((n + m : Nat) : Int) > IntKind.i64.max ∧ ((z = true) ∨ i.bytes = 0)) := by
    rintro ⟨q, _⟩
    rw [hmax] at q
    omega
  have c2 : ¬ (Builtin.nextslicecap (n + m) cap * i.bytes > 2 ^ 48) := by
    have q := nextcap_le (show cap < n + m by omega)
    have q2 : Builtin.nextslicecap (n + m) cap * i.bytes ≤ (2 * (n + m) + 1000) * i.bytes := Nat.mul_le_mul_right _ q
    rw [hb] at q2 ⊢
    have : (2 ^ 48 : Nat) = 281474976710656 := by decide
    omega
  refine ⟨if (Question.appendCap (n + m) cap e).forced then 0 else (Question.appendCap (n + m) cap e).cut tt, w1, ?_, hh, ho, hos, ?_⟩
  · simp [Question.forced, Question.cut]
  · cases z with
    | false =>
      simp only [CountM] at hc
      have hn := hnew w1 hh
      simp only [appendedM, Bool.not_false, if_true] at hn
      have hd : ∀ k, d ≠ .int k := by rintro k rfl; simp [isIntD] at hz
      cases d <;> first | (exact absurd rfl (hd _)) | skip
      all_goals
        simp only [Bool.false_eq_true, false_or] at c1
        simp only [Builtin.append_, Sem.run_bind, List.getElem?_toArray, List.getElem?_cons_zero, List.getElem?_cons_succ, r_underlying hu, Result.andThen_ok, r_sizeOf hs, r_underlying hx, Sem.run_pure, hc, if_neg hgt, r_typeInfo hi, Bool.false_eq_true, false_or, if_neg c1, if_neg c2, if_false, hch, run_askRoom, hold w1 hh, Bool.not_false, if_true, hn, hzv]
    | true =>
      obtain ⟨k, l, rfl, h1, h2, rfl⟩ := hc
      cases d <;> try (simp [isIntD] at hz; done)
      have hn := hnew w1 hh
      simp only [appendedM, Bool.not_true, Bool.false_eq_true, if_false] at hn
      have q1 : ¬ IntKind.i64.wrap l < 0 := by omega
      have q2 : ¬ (IntKind.i64.wrap l * (i.bytes : Int) > 2 ^ 48) := by
        rw [hb]
        have : (2 ^ 48 : Int) = 281474976710656 := by decide
        omega
      simp only [true_or, and_true] at c1
      simp only [Builtin.append_, Sem.run_bind, List.getElem?_toArray, List.getElem?_cons_zero, List.getElem?_cons_succ, r_underlying hu, Result.andThen_ok, r_sizeOf hs, r_underlying hx, Sem.run_pure, asInt, asIntOf, if_true, if_neg q1, r_typeInfo hi, if_neg q2, if_neg hgt, true_or, and_true, if_neg c1, if_neg c2, hch, run_askRoom, hold w1 hh, Bool.not_true, Bool.false_eq_true, if_false]
      rw [hn]
      simp only [Result.andThen_ok, hzv, Sem.run_bind, Sem.run_pure]

end Go.Vm

/-
  A virtual semantics of the model's code (18): append, whole.
-/
namespace Go.Vm
variable {P : Program} {G : Nat} {ρ : Ren} {S : St} {w : World}

theorem r_loadCellsH {id off k : Nat} {l : List VV} (hS : Sim G ρ S w) (h : loadV S id off k = some l) : ∃ r b n, ρ id = some (r, b, n) ∧
    ∃ l' : List Value, VRels ρ l l' ∧ ∀ w1 : World, w1.heap = w.heap → ∀ a : Addr, a = ⟨r, b + off, none⟩ → (loadCells a k).run P w1 = .ok l'.toArray w1 := by
  unfold loadV at h
  cases ho : S.h.get id with
  | none => simp [ho] at h
  | some o =>
    cases o with
    | cells c m t ro mk =>
      simp only [ho] at h
      obtain ⟨r, b, n, cs, t', fr, h1, h2, h3, h4, h5, h6, _, _⟩ := hS.row ho
      refine ⟨r, b, n, h1, ?_⟩
      obtain ⟨hl, hg⟩ := (Tr.row_spec c k off l).1 h
      have hlt : ∀ j, j < k → (cs[b + off + j]?).isSome := by
        intro j hj
        have e := hg j hj
        have : j < l.length := by omega
        rw [List.getElem?_eq_getElem this] at e
        obtain ⟨v', hv', _⟩ := h6 _ _ e
        rw [show b + off + j = b + (off + j) by omega, hv']; rfl
      refine ⟨(List.range k).map fun j => (cs[b + off + j]?).getD default, ?_, ?_⟩
      · refine VRels.of_get (by simp [hl]) fun j v v' hv hv' => ?_
        have hj : j < k := by
          have : j < l.length := by
            rcases Nat.lt_or_ge j l.length with x | x
            · exact x
            · rw [List.getElem?_eq_none x] at hv; cases hv
          omega
        have e := hg j hj
        rw [hv] at e
        obtain ⟨u, hu, hr⟩ := h6 _ _ e
        rw [List.getElem?_map, List.getElem?_range hj] at hv'
        simp only [Option.map_some, Option.some.injEq] at hv'
        rw [← hv', show b + off + j = b + (off + j) by omega, hu]
        exact hr
      · rintro w1 hw1 a rfl
        have := r_loadCellsFrom (P := P) (w := w1) (o := b + off) (by rw [hw1]; exact h2) k 0 #[] ((List.range k).map fun j => (cs[b + off + j]?).getD default) (by simp) (fun j hj => by
          rw [List.getElem?_map, List.getElem?_range hj]
          obtain ⟨x, hx⟩ := Option.isSome_iff_exists.1 (hlt j hj)
          simp [hx])
        simpa [loadCells] using this
    | _ => simp [ho] at h

theorem r_firstH (hS : Sim G ρ S w) {x : VV} {x' : Value} {size n : Nat} {l : List VV} (h : firstV S size n x = some l) (hx : VRel ρ x x') (hn : ∀ m, lenOfV x = some m → n ≤ m) :
    ∃ l' : List Value, VRels ρ l l' ∧ (∀ w1 : World, w1.heap = w.heap → (Builtin.firstCells size n x').run P w1 = .ok l'.toArray w1) ∧ l.length = n * size := by
  cases hx <;> simp only [firstV, reduceCtorEq] at h
  case str s =>
    split at h
    · simp only [Option.some.injEq] at h
      subst h
      refine ⟨_, cellsOfBytes_rel _, ?_, ?_⟩
      · intro w1 _
        simp only [Builtin.firstCells, Sem.run_pure, Result.ok.injEq, and_true]
        apply Array.toList_inj.1
        simp [ByteArray.data_extract, Array.toList_extract, List.extract_eq_take_drop]
      · have := hn _ rfl
        simp only [Array.length_toList] at this
        have h2 : s.size = s.data.size := rfl
        simp [cellsOfBytes]
        omega
    · cases h
  case nilSlice m c =>
    split at h
    · rename_i h0
      simp only [Option.some.injEq] at h
      subst h
      exact ⟨[], .nil, fun _ _ => rfl, by simp [h0]⟩
    · cases h
  case slice id r b k off len c hρ =>
    cases hk : n * size with
    | zero =>
      simp only [hk, Option.some.injEq] at h
      subst h
      exact ⟨[], .nil, fun w1 _ => by simp only [Builtin.firstCells, hk]; rfl, rfl⟩
    | succ q =>
      simp only [hk] at h
      obtain ⟨r1, b1, n1, e1, l', e2, e3⟩ := r_loadCellsH (P := P) hS h
      rw [hρ] at e1
      cases e1
      exact ⟨l', e2, fun w1 hw1 => by simp only [Builtin.firstCells, hk]; exact e3 w1 hw1 _ rfl, loadV_length h⟩
  case rest id r b k off len c z hρ hc hl =>
    cases hk : n * size with
    | zero =>
      simp only [hk, Option.some.injEq] at h
      subst h
      exact ⟨[], .nil, fun w1 _ => by simp only [Builtin.firstCells, hk]; rfl, rfl⟩
    | succ q =>
      simp only [hk] at h
      obtain ⟨r1, b1, n1, e1, l', e2, e3⟩ := r_loadCellsH (P := P) hS h
      rw [hρ] at e1
      cases e1
      exact ⟨l', e2, fun w1 hw1 => by simp only [Builtin.firstCells, hk]; exact e3 w1 hw1 _ rfl, loadV_length h⟩
  case restEnd id r b k off off' z hρ =>
    have h0 : n = 0 := by have := hn 0 rfl; omega
    subst h0
    simp only [Nat.zero_mul, Option.some.injEq] at h
    subst h
    exact ⟨[], .nil, fun w1 _ => by simp only [Builtin.firstCells, Nat.zero_mul]; rfl, by simp⟩
  case sliceEnd id r b k off off' hρ =>
    have h0 : n = 0 := by have := hn 0 rfl; omega
    subst h0
    simp only [Nat.zero_mul, Option.some.injEq] at h
    subst h
    exact ⟨[], .nil, fun w1 _ => by simp only [Builtin.firstCells, Nat.zero_mul]; rfl, by simp⟩


theorem zeroCells_eq {z : Value} {size n : Nat} (hz : z.cells.size = size) : (Builtin.zeroCells z.cells n) = (Array.range (n * size)).map (z.cells[· % z.cells.size]!) := by
  simp only [Builtin.zeroCells, hz]

theorem r_appended (hS : Sim G ρ S w) {xt e : TypeId} {size m bytes : Nat} {x : VV} {x' : Value} {new : List VV} (h : appendedV P S xt e size x = some (new, m)) (hx : VRel ρ x x') (hz : zeroOk P e size = true) (hm : m * bytes ≤ 281474976710656) :
    ∃ (d : TypeDesc) (new' : List Value), P.underlying xt = some d ∧ CountM P w (isIntD d) x' bytes m ∧ VRels ρ new new' ∧ new.length = m * size ∧ ∀ w1 : World, w1.heap = w.heap → (appendedM (isIntD d) e size m x').run P w1 = .ok new'.toArray w1 := by
  unfold appendedV at h
  cases hu : P.underlying xt with
  | none => simp [hu] at h
  | some d =>
    by_cases hd : ∃ k, d = .int k
    · obtain ⟨k, rfl⟩ := hd
      simp only [hu] at h
      cases hx <;> try (simp only [reduceCtorEq] at h; done)
      rename_i k2 l
      simp only at h
      split at h
      · rename_i h0
        cases hr : zeroRowV P e ((IntKind.i64.wrap l).toNat * size) with
        | none => simp [hr] at h
        | some row =>
          simp only [hr, Option.some.injEq, Prod.mk.injEq] at h
          obtain ⟨rfl, rfl⟩ := h
          obtain ⟨z, rz, zs⟩ := zeroOk_run hz
          obtain ⟨hlen, row', hrr, hrun⟩ := r_zeroRow hr ρ
          refine ⟨_, row'.toList, rfl, ⟨k2, l, rfl, h0, ?_, rfl⟩, hrr, hlen, ?_⟩
          · have q1 : ((IntKind.i64.wrap l).toNat : Int) = IntKind.i64.wrap l := Int.toNat_of_nonneg h0
            have q2 : (((IntKind.i64.wrap l).toNat * bytes : Nat) : Int) = IntKind.i64.wrap l * bytes := by rw [Int.natCast_mul, q1]
            rw [← q2]
            omega
          · intro w1 _
            simp only [isIntD, appendedM, Bool.not_true, Bool.false_eq_true, if_false]
            rcases hrun with ⟨q0, rfl⟩ | ⟨q0, z', rz', q1⟩
            · rw [if_pos q0]; rfl
            · have : z' = z := by
                have e1 := rz' w
                rw [rz w] at e1
                simpa using e1.symm
              subst this
              rw [if_neg q0]
              simp only [Sem.run_bind, rz, Result.andThen_ok, Sem.run_pure, zeroCells_eq zs, q1]
      · cases h
    · have hi : isIntD d = false := by cases d <;> first | rfl | exact absurd ⟨_, rfl⟩ hd
      have h' : (match lenOfV x with
          | some m => match firstV S size m x with
            | some new => some (new, m)
            | none => none
          | none => none) = some (new, m) := by
        rw [← h, hu]
        cases d <;> first | rfl | exact absurd ⟨_, rfl⟩ hd
      cases hl : lenOfV x with
      | none => simp [hl] at h'
      | some q =>
        simp only [hl] at h'
        cases hf : firstV S size q x with
        | none => simp [hf] at h'
        | some row =>
          simp only [hf, Option.some.injEq, Prod.mk.injEq] at h'
          obtain ⟨rfl, rfl⟩ := h'
          obtain ⟨l', e1, e2, e3⟩ := r_firstH (P := P) hS hf hx (fun q2 hq2 => by rw [hl] at hq2; cases hq2; exact Nat.le_refl _)
          refine ⟨d, l', rfl, ?_, e1, e3, ?_⟩
          · rw [hi]; exact r_lenOf hl hx w
          · intro w1 hw1
            rw [hi]
            simp only [appendedM, Bool.not_false, if_true]
            exact e2 w1 hw1

theorem zeroCells_size (z : Array Value) (n : Nat) : (Builtin.zeroCells z n).size = n * z.size := by simp [Builtin.zeroCells]

/-- a new row, with more cells behind what is known -/
theorem r_newRowMore {cs : List VV} {cs' more : Array Value} {m : Nat} {t : TypeId} {mk : Bool} {r : Nat} {S' : St} (hS : Sim G ρ S w) (h : newRowV S cs m t mk = some (r, S')) (hc : VRels ρ cs cs'.toList) (hm : cs.length = m) :
    ∃ ρ', r = S.nx ∧ ρ' r = some (w.heap.size, 0, m + more.size) ∧ (newRow t (cs' ++ more)).run P w = .ok ⟨w.heap.size, 0, none⟩ (World.add w (.cells (cs' ++ more) t)) ∧ Goes G ρ S w ρ' S' (World.add w (.cells (cs' ++ more) t)) := by
  unfold newRowV at h
  cases ho : allOne cs with
  | false => simp [ho] at h
  | true =>
    simp only [ho, Tr.with_eq, Option.some.injEq, Prod.mk.injEq] at h
    obtain ⟨rfl, rfl⟩ := h
    have hl := hc.length
    simp only [Array.length_toList] at hl
    refine ⟨ρ.add S.nx (w.heap.size, 0, m + more.size), rfl, by simp [Ren.add], rfl, Goes.alloc hS _ _ _ fun ρ' hle => ?_⟩
    refine .cells (by simp; omega) (by omega) ?_ ?_ (fun _ => .inl rfl) (fun _ => rfl)
    · intro i u hu
      rw [Tr.get_ofList] at hu
      rcases Nat.lt_or_ge i cs.length with x | x
      · omega
      · rw [List.getElem?_eq_none x] at hu; cases hu
    · intro i u hu
      rw [Tr.get_ofList] at hu
      have hi : i < cs.length := by
        rcases Nat.lt_or_ge i cs.length with x | x
        · exact x
        · rw [List.getElem?_eq_none x] at hu; cases hu
      obtain ⟨u', hu', hr⟩ := hc.get hu
      refine ⟨u', ?_, hr.mono hle⟩
      rw [Nat.zero_add, Array.getElem?_append_left (by omega)]
      simpa using hu'

theorem le_of_mul {a b c : Nat} (h : (a + 1) * (c + 1) ≤ b * (c + 1)) : a + 1 ≤ b := Nat.le_of_mul_le_mul_right h (Nat.succ_pos c)

set_option maxHeartbeats 4000000 in
theorem r_appendTo (hS : Sim G ρ S w) {t xt e : TypeId} {size n m : Nat} {base : Option (Nat × Nat)} {cap : Cap} {new : List VV} {u : VV} {S' : St} {s' x' : Value} (ty : TypeId)
    (h : appendTo S e (size + 1) base n cap new m = some (u, S')) (hs' : VRel ρ (.slice base n cap) s')
    (hu : P.underlying t = some (.slice e)) (hs : sizeV P e = some (size + 1)) {i : TypeInfo} (hi : P.info? e = some i)
    {zv : Value} (hzv : ∀ w, (zeroValue e).run P w = .ok zv w) (hzs : zv.cells.size = size + 1) (hroom : roomV (n + m) i.bytes = true)
    {d : TypeDesc} {new' : List Value} (hx : P.underlying xt = some d) (hc : CountM P w (isIntD d) x' i.bytes m) (hn : VRels ρ new new') (hnl : new.length = m * (size + 1))
    (ha : ∀ w1 : World, w1.heap = w.heap → (appendedM (isIntD d) e (size + 1) m x').run P w1 = .ok new'.toArray w1) :
    ∃ ρ' u' w', (Builtin.append_ #[t, xt] ty #[s', x']).run P w = .ok u' w' ∧ VRel ρ' u u' ∧ Goes G ρ S w ρ' S' w' := by
  have hnl' : new'.length = m * (size + 1) := by rw [hn.length, hnl]
  have ha0 := ha w rfl
  -- growing: the old cells are known, the new row is made
  have grow : ∀ {ρ1 : Ren} {S1 S2 : St} {old : List VV} {old' : List Value} {base' : Option Addr} {cap' r : Nat} {mk : Bool}, Goes G ρ S w ρ1 S1 w → ¬ n + m ≤ cap' → VRels ρ1 old old' → old.length = n * (size + 1) → VRels ρ1 new new' →
      (∀ w1 : World, w1.heap = w.heap → (Builtin.firstCells (size + 1) n (.slice base' n cap')).run P w1 = .ok old'.toArray w1) →
      newRowV S1 (old ++ new) (old ++ new).length e mk = some (r, S2) →
      ∃ ρ' u' w', (Builtin.append_ #[t, xt] ty #[.slice base' n cap', x']).run P w = .ok u' w' ∧ VRel ρ' (.slice (some (r, 0)) (n + m) (.rest (size + 1))) u' ∧ Goes G ρ S w ρ' S2 w' := by
    intro ρ1 S1 S2 old old' base' cap' r mk hgo hgt hold hol hn1 hrun hrow
    obtain ⟨nc, w1, h1, h2, h3, h4, h5⟩ := append_grow (P := P) (w := w) (z := isIntD d) (bytes := i.bytes) ty (base := base') (n := n) (cap := cap') (x := x') hu hx hs hi rfl rfl hc hzv hgt hroom hrun ha
    have hg1 := hgo.trans (Goes.same hgo.sim h2 h3 h4)
    obtain ⟨ρ', rfl, e2, e3, e4⟩ := r_newRowMore (P := P) (more := Builtin.zeroCells zv.cells (nc - (n + m))) (cs' := old'.toArray ++ new'.toArray) hg1.sim hrow (by simpa using hold.append hn1) rfl
    refine ⟨ρ', .slice (some ⟨w1.heap.size, 0, none⟩) (n + m) nc, _, ?_, ?_, hg1.trans e4⟩
    · rw [h5, e3]; rfl
    · refine .rest (b := 0) (n := _) (n + m) nc (size + 1) e2 ?_ h1
      rw [zeroCells_size, hzs, List.length_append, hol, hnl, ← Nat.add_mul, Nat.zero_add, ← Nat.add_mul, Nat.add_sub_cancel' h1]
  unfold appendTo at h
  split at h
  · -- a nil slice
    cases hs'
    split at h
    · simp only [Option.some.injEq, Prod.mk.injEq] at h
      obtain ⟨rfl, rfl⟩ := h
      refine ⟨ρ, .slice none 0 0, w, ?_, .nilSlice 0 0, .refl hS⟩
      exact append_in (P := P) ty hu hx hs hi rfl rfl hc ha0 (by omega) rfl
    · rename_i m
      split at h
      · rename_i r S2 hrow
        simp only [Option.some.injEq, Prod.mk.injEq] at h
        obtain ⟨rfl, rfl⟩ := h
        have := grow (base' := none) (cap' := 0) (old := []) (old' := []) (Goes.refl hS) (by omega) .nil (by simp) hn (fun w1 _ => by simp [Builtin.firstCells]) hrow
        simpa using this
      · cases h
    · cases h
  · -- its capacity is known
    rename_i id off c
    have fin : ∀ {b : Nat} {r : Nat} {n1 : Nat}, ρ id = some (r, b, n1) → s' = .slice (some ⟨r, b + off, none⟩) n c → ∃ ρ' u' w', (Builtin.append_ #[t, xt] ty #[s', x']).run P w = .ok u' w' ∧ VRel ρ' u u' ∧ Goes G ρ S w ρ' S' w' := by
      rintro b r n1 hρ rfl
      split at h
      · rename_i hle
        cases hst : storeV S id (off + n * (size + 1)) new with
        | none => simp [hst] at h
        | some S1 =>
          simp only [hst, Option.some.injEq, Prod.mk.injEq] at h
          obtain ⟨rfl, rfl⟩ := h
          obtain ⟨w', f1, f2⟩ := r_storeV (P := P) hS hst hn hρ
          refine ⟨ρ, .slice (some ⟨r, b + off, none⟩) (n + m) c, w', ?_, .slice _ _ hρ, f2⟩
          exact append_in (P := P) ty hu hx hs hi rfl rfl hc ha0 hle (by simpa [Addr.add_none, Nat.add_assoc] using f1)
      · rename_i hgt
        cases hf : firstV S (size + 1) n (.slice (some (id, off)) n (.just c)) with
        | none => simp [hf] at h
        | some old =>
          simp only [hf] at h
          obtain ⟨old', e1, e2, e3⟩ := r_firstH (P := P) hS hf (.slice n c hρ) (fun q hq => by simp only [lenOfV, Option.some.injEq] at hq; omega)
          split at h
          · rename_i r' S2 hrow
            simp only [Option.some.injEq, Prod.mk.injEq] at h
            obtain ⟨rfl, rfl⟩ := h
            exact grow (Goes.refl hS) hgt e1 e3 hn e2 hrow
          · cases h
    cases hs' with
    | slice _ _ hρ => exact fin hρ rfl
    | sliceEnd off' hρ =>
      rename_i r b n1
      split at h
      · rename_i hle
        have hm0 : m = 0 := by omega
        subst hm0
        have hnew : new = [] := List.length_eq_zero_iff.1 (by omega)
        subst hnew
        cases hn
        simp only [storeV, Option.some.injEq, Prod.mk.injEq] at h
        obtain ⟨rfl, rfl⟩ := h
        refine ⟨ρ, .slice (some ⟨r, off', none⟩) 0 0, w, ?_, .sliceEnd _ hρ, .refl hS⟩
        exact append_in (P := P) ty hu hx hs hi rfl rfl hc ha0 (by omega) rfl
      · rename_i hgt
        simp only [firstV, Nat.zero_mul] at h
        split at h
        · rename_i r' S2 hrow
          simp only [Option.some.injEq, Prod.mk.injEq] at h
          obtain ⟨rfl, rfl⟩ := h
          have := grow (base' := some ⟨r, off', none⟩) (cap' := 0) (old := []) (old' := []) (Goes.refl hS) (by omega) .nil (by simp) hn (fun w1 _ => by simp [Builtin.firstCells, loadCells, loadCellsFrom]) hrow
          simpa using this
        · cases h
  · -- its capacity is not known
    rename_i id off z
    split at h
    · rename_i hz
      subst hz
      cases m with
      | zero =>
        simp only [Option.some.injEq, Prod.mk.injEq] at h
        obtain ⟨rfl, rfl⟩ := h
        have hnew : new = [] := List.length_eq_zero_iff.1 (by omega)
        subst hnew
        cases hn
        cases hs' with
        | rest _ c _ hρ hcc hl => exact ⟨ρ, _, w, append_in (P := P) ty hu hx hs hi rfl rfl hc ha0 (by omega) rfl, .rest _ _ _ hρ hcc hl, .refl hS⟩
        | restEnd off' _ hρ => exact ⟨ρ, _, w, append_in (P := P) ty hu hx hs hi rfl rfl hc ha0 (by omega) rfl, .restEnd _ _ hρ, .refl hS⟩
      | succ m =>
        simp only at h
        split at h
        · rename_i c k ct mk ho
          split at h
          · rename_i hin
            obtain ⟨hin1, hin2⟩ := hin
            cases hst : storeV S id (off + n * (size + 1)) new with
            | none => simp [hst] at h
            | some S1 =>
              simp only [hst, Option.some.injEq, Prod.mk.injEq] at h
              obtain ⟨rfl, rfl⟩ := h
              cases hs' with
              | restEnd off' _ hρ => exact absurd rfl hin2
              | rest _ c' _ hρ hcc hl =>
                rename_i r b n1
                obtain ⟨w', f1, f2⟩ := r_storeV (P := P) hS hst hn hρ
                obtain ⟨cs, t', fr, g1, g2, g3, g4⟩ := hS.cellsAt ho hρ
                have hle : n + (m + 1) ≤ c' := by
                  refine Nat.le_of_mul_le_mul_right (c := size + 1) ?_ (Nat.succ_pos _)
                  omega
                exact ⟨ρ, .slice (some ⟨r, b + off, none⟩) (n + (m + 1)) c', w', append_in (P := P) ty hu hx hs hi rfl rfl hc ha0 hle (by simpa [Addr.add_none, Nat.add_assoc] using f1), .rest _ _ _ hρ hcc hle, f2⟩
          · rename_i hin
            cases hrow0 : c.row off (n * (size + 1)) with
            | none => simp [hrow0] at h
            | some old =>
              simp only [hrow0] at h
              split at h
              · rename_i r' S2 hrow
                simp only [Option.some.injEq, Prod.mk.injEq] at h
                obtain ⟨rfl, rfl⟩ := h
                have hload : loadV S id off (n * (size + 1)) = some old := by simp [loadV, ho, hrow0]
                obtain ⟨r1, b1, n1, hρ1, old', e1, e2⟩ := r_loadCellsH (P := P) hS hload
                have hol := loadV_length hload
                cases hs' with
                | restEnd off' _ hρ =>
                  rename_i r b nn
                  simp only [Nat.zero_mul] at hol
                  have : old = [] := List.length_eq_zero_iff.1 hol
                  subst this
                  cases e1
                  exact grow (base' := some ⟨r, off', none⟩) (cap' := 0) (Goes.drop hS id) (by omega) .nil (by simp) hn (fun w1 _ => by simp [Builtin.firstCells, loadCells, loadCellsFrom]) hrow
                | rest _ c' _ hρ hcc hl =>
                  rename_i r b nn
                  rw [hρ] at hρ1
                  simp only [Option.some.injEq, Prod.mk.injEq] at hρ1
                  obtain ⟨rfl, rfl, rfl⟩ := hρ1
                  by_cases hle : n + (m + 1) ≤ c'
                  · -- in place
                    obtain ⟨r2, b2, n2, cs, t', fr, k1, k2, k3, k4, k5, k6, k7, k8⟩ := hS.row ho
                    rw [hρ] at k1
                    simp only [Option.some.injEq, Prod.mk.injEq] at k1
                    obtain ⟨rfl, rfl, rfl⟩ := k1
                    have hmul : (n + (m + 1)) * (size + 1) ≤ c' * (size + 1) := Nat.mul_le_mul_right _ hle
                    have hadd : (n + (m + 1)) * (size + 1) = n * (size + 1) + (m + 1) * (size + 1) := Nat.add_mul _ _ _
                    unfold newRowV at hrow
                    cases hone : allOne (old ++ new) with
                    | false => simp [hone] at hrow
                    | true =>
                      simp only [hone, Tr.with_eq, Option.some.injEq, Prod.mk.injEq] at hrow
                      obtain ⟨rfl, rfl⟩ := hrow
                      have hone' := allOne_spec hone
                      have hst := r_storeCells (P := P) (o := b + off + n * (size + 1)) new' 0 w r cs t' fr k2 (by omega) (by rw [k3]; exact not_frozen (k7 rfl)) (hn.one fun v hv => hone' v (List.mem_append_right _ hv))
                      have hol' : old'.length = n * (size + 1) := by rw [e1.length, hol]
                      have hrun := e2 w rfl ⟨r, b + off, none⟩ rfl
                      have hcells := hn
                      refine ⟨_, .slice (some ⟨r, b + off, none⟩) (n + (m + 1)) c', _, append_in (P := P) ty hu hx hs hi rfl rfl hc ha0 hle (by simpa [Addr.add_none] using hst), ?_, Goes.become (b' := b + off) (n' := nn - off) (onew' := .cells (putRow cs (b + off + n * (size + 1) + 0) new') t' fr) hS ho rfl hρ ?_⟩
                      · exact .rest (b := b + off) (off := 0) _ _ _ (by simp [Ren.add]; rfl) (by omega) hle
                      · intro ρ' hle'
                        refine .cells (by rw [putRow_size]; omega) (by rw [List.length_append]; omega) ?_ ?_ (fun _ => by rcases k7 rfl with q | q; exact .inl q; exact .inr (by rw [q, show b + off + (nn - off) = b + nn by omega])) k8
                        · intro j v hj
                          rw [Tr.get_ofList] at hj
                          rcases Nat.lt_or_ge j (old ++ new).length with q | q
                          · exact q
                          · rw [List.getElem?_eq_none q] at hj; cases hj
                        · intro j v hj
                          rw [Tr.get_ofList] at hj
                          rw [putRow_get _ _ _ (by omega)]
                          by_cases hjn : j < n * (size + 1)
                          · rw [List.getElem?_append_left (by omega)] at hj
                            rw [if_neg (by omega)]
                            have hg := ((Tr.row_spec _ _ _ _).1 hrow0).2 j hjn
                            rw [hj] at hg
                            obtain ⟨v', q1, q2⟩ := k6 _ _ hg
                            exact ⟨v', by rw [Nat.add_assoc]; exact q1, q2.mono hle'⟩
                          · rw [List.getElem?_append_right (by omega)] at hj
                            obtain ⟨v', q1, q2⟩ := hn.get hj
                            have hlt : j - old.length < new'.length := by
                              rcases Nat.lt_or_ge (j - old.length) new'.length with q | q
                              · exact q
                              · rw [List.getElem?_eq_none q] at q1; cases q1
                            rw [if_pos (by omega)]
                            exact ⟨v', by rw [show b + off + j - (b + off + n * (size + 1) + 0) = j - old.length by omega]; exact q1, q2.mono hle'⟩
                  · exact grow (Goes.drop hS id) hle e1 hol hn (fun w1 hw1 => by simp only [Builtin.firstCells]; exact e2 w1 hw1 _ rfl) hrow
              · cases h
        · cases h
    · cases h
  · cases h

end Go.Vm

/-
  A virtual semantics of the model's code (19): each simple operation, whole.
-/
namespace Go.Vm
variable {P : Program} {G : Nat} {ρ : Ren} {S : St} {w : World}

theorem r_append (hS : Sim G ρ S w) {ts : List TypeId} {args : List VV} {args' : Array Value} {u : VV} {S' : St} (ty : TypeId) (h : appendV P S ts args = some (u, S')) (ha : VRels ρ args args'.toList) :
    ∃ ρ' u' w', (Builtin.append_ ts.toArray ty args').run P w = .ok u' w' ∧ VRel ρ' u u' ∧ Goes G ρ S w ρ' S' w' := by
  unfold appendV at h
  split at h
  · rename_i t xt base n cap x
    obtain ⟨args'⟩ := args'
    change VRels ρ _ args' at ha
    cases ha with
    | cons hs' ht =>
      cases ht with
      | cons hx ht =>
        cases ht
        cases hu : P.underlying t with
        | none => simp [hu] at h
        | some d =>
          cases d <;> simp only [hu, reduceCtorEq] at h
          rename_i e
          cases hs : sizeV P e with
          | none => simp [hs] at h
          | some size =>
            cases hb : bytesV P e with
            | none => cases size <;> simp [hs, hb] at h
            | some bytes =>
              cases size with
              | zero => simp [hs, hb] at h
              | succ size =>
                obtain ⟨i, hi, rfl⟩ := bytesV_info hb
                simp only [hs, hb] at h
                cases hz : zeroOk P e (size + 1) with
                | false => simp [hz] at h
                | true =>
                  obtain ⟨zv, rz, zs⟩ := zeroOk_run hz
                  cases hap : appendedV P S xt e (size + 1) x with
                  | none => simp [hz, hap] at h
                  | some q =>
                    obtain ⟨new, m⟩ := q
                    simp only [hz, hap] at h
                    cases hr : roomV (n + m) i.bytes with
                    | false => simp [hr] at h
                    | true =>
                      simp only [hr] at h
                      have hm : m * i.bytes ≤ 281474976710656 := by
                        simp only [roomV, Bool.and_eq_true] at hr
                        have r1 := Nat.le_of_ble_eq_true hr.1
                        have : m * i.bytes ≤ (2 * (n + m) + 1000) * i.bytes := Nat.mul_le_mul_right _ (by omega)
                        omega
                      obtain ⟨d, new', a1, a2, a3, a4, a5⟩ := r_appended hS hap hx hz hm
                      exact r_appendTo hS ty h hs' hu hs hi rz zs hr a1 a2 a3 a4 a5
  · cases h

theorem bytesOf_rel : ∀ {l : List VV} {l' : List Value} {s : List UInt8}, bytesOfV l = some s → VRels ρ l l' → ∀ (acc : ByteArray) (w : World),
    (forIn (m := Sem) l' acc fun c r =>
      match c with
      | .int .u8 n => pure (.yield (r.push (UInt8.ofNat n.toNat)))
      | _ => do
        (stuck "bytesToString: byte expected" : Sem Unit)
        pure (.yield r)).run P w = .ok (⟨acc.data ++ s.toArray⟩ : ByteArray) w := by
  intro l
  induction l with
  | nil => intro l' s h hl acc w; cases hl; simp only [bytesOfV, Option.some.injEq] at h; subst h; simp
  | cons v l ih =>
    intro l' s h hl acc w
    cases hl with
    | cons hv ht =>
      cases hv <;> try (simp only [bytesOfV, reduceCtorEq] at h; done)
      rename_i k n
      cases k <;> try (simp only [bytesOfV, reduceCtorEq] at h; done)
      simp only [bytesOfV] at h
      cases hb : bytesOfV l with
      | none => simp [hb] at h
      | some r =>
        simp only [hb, Option.some.injEq] at h
        subst h
        simp only [List.forIn_cons, Sem.run_bind, Sem.run_pure, Result.andThen_ok]
        rw [ih hb ht]
        congr 1
        apply ByteArray.ext
        simp [ByteArray.push]

theorem r_bytesToString (hS : Sim G ρ S w) {id off n r b k : Nat} {l : List VV} {s : List UInt8} (hl : loadV S id off n = some l) (hb : bytesOfV l = some s) (hρ : ρ id = some (r, b, k)) (c : Nat) :
    ∃ v', (Conv.bytesToString (.slice (some ⟨r, b + off, none⟩) n c)).run P w = .ok v' w ∧ VRel ρ (.str s) v' := by
  obtain ⟨r1, b1, n1, h1, l', h2, h3⟩ := r_loadCells (P := P) hS hl
  rw [hρ] at h1
  simp only [Option.some.injEq, Prod.mk.injEq] at h1
  obtain ⟨rfl, rfl, rfl⟩ := h1
  have hrun := h3 ⟨r, b + off, none⟩ rfl
  have hloop := bytesOf_rel (P := P) hb h2 ByteArray.empty w
  refine ⟨.string ⟨s.toArray⟩, ?_, ?_⟩
  · simp only [Conv.bytesToString, Sem.run_bind, hrun, Result.andThen_ok]
    rw [← Array.forIn_toList]
    have e : (forIn (m := Sem) l'.toArray.toList ByteArray.empty fun c r =>
      match c with
      | .int .u8 n => pure (.yield (r.push (UInt8.ofNat n.toNat)))
      | _ => do
        (stuck "bytesToString: byte expected" : Sem Unit)
        pure (.yield r)).run P w = .ok (⟨s.toArray⟩ : ByteArray) w := by
      rw [show l'.toArray.toList = l' from rfl, hloop]
      congr 1
      apply ByteArray.ext
      simp
    exact (congrArg (fun x : Result ByteArray => x.andThen fun a w' => Sem.run P (pure (Value.string a)) w') e).trans rfl
  · have := VRel.str (ρ := ρ) (⟨s.toArray⟩ : ByteArray)
    simpa using this

theorem freeze_put {w : World} {r : Nat} {cs : Array Value} {t : TypeId} {lo hi : Nat} (h : w.heap[r]? = some (.cells cs t (lo, hi))) (n : Nat) :
    w.freeze ⟨r, n, none⟩ 1 = World.put w r (.cells cs t (if lo == hi then (n, n + 1) else (min lo n, max hi (n + 1)))) := by
  have hr : r < w.heap.size := by
    rcases Nat.lt_or_ge r w.heap.size with x | x
    · exact x
    · rw [Array.getElem?_eq_none x] at h; cases h
  have hh : (w.freeze ⟨r, n, none⟩ 1).heap = w.heap.setIfInBounds r (.cells cs t (if lo == hi then (n, n + 1) else (min lo n, max hi (n + 1)))) := by
    apply Array.ext_getElem?
    intro j
    rw [getElem?_setIfInBounds]
    simp only [World.freeze, Nat.one_ne_zero, if_false]
    rw [Array.getElem?_modify]
    by_cases e : r = j
    · subst e
      rw [h]
      simp [hr]
    · simp [e]
  have e1 : w.freeze ⟨r, n, none⟩ 1 = { w with heap := (w.freeze ⟨r, n, none⟩ 1).heap } := by
    simp only [World.freeze, Nat.one_ne_zero, if_false]
  rw [e1, hh]
  rfl

theorem r_mark (hS : Sim G ρ S w) {id m r b n : Nat} {cs : Tr VV} {t : TypeId} {mk : Bool} (ho : S.h.get id = some (.cells cs m t false mk)) (hρ : ρ id = some (r, b, n)) (off : Nat) :
    ∃ w', (markStringish ⟨r, off, none⟩).run P w = .ok () w' ∧ Goes G ρ S w ρ { S with h := S.h.set id (.cells cs m t false true) } w' := by
  obtain ⟨r1, b1, n1, cs', t', fr, h1, h2, h3, h4, h5, h6, h7, h8⟩ := hS.row ho
  rw [hρ] at h1
  simp only [Option.some.injEq, Prod.mk.injEq] at h1
  obtain ⟨rfl, rfl, rfl⟩ := h1
  obtain ⟨lo, hi⟩ := fr
  have hs : w.shape? r = some (t', cs'.size) := by simp [World.shape?, h2]
  refine ⟨World.put w r (.cells cs' t' (if lo == hi then (cs'.size, cs'.size + 1) else (min lo cs'.size, max hi (cs'.size + 1)))), by simp only [markStringish, Sem.run_bind, run_shape, hs, Result.andThen_ok, run_freeze, freeze_put h2], ?_⟩
  refine Goes.update hS ho rfl hρ (.cells h3 h4 h5 h6 (fun _ => ?_) (fun q => by cases q))
  rcases h7 rfl with q | q
  · simp only at q
    subst q
    exact .inr (by simp [h3])
  · simp only [Prod.mk.injEq] at q
    obtain ⟨rfl, rfl⟩ := q
    have : ((b + n) == (b + n + 1)) = false := by simp
    rw [this]
    exact .inr (by simp [h3])

theorem r_stringToBytes (hS : Sim G ρ S w) (e : TypeId) (s : ByteArray) : ∃ ρ' v' w', (Conv.stringToBytes e s).run P w = .ok v' w' ∧ VRel ρ' (.slice (some (S.nx, 0)) s.data.toList.length (.rest 1)) v' ∧
    Goes G ρ S w ρ' { h := S.h.set S.nx (.cells (Tr.ofList (cellsOfBytes s.data.toList)) s.data.toList.length e false true), nx := S.nx + 1 } w' := by
  obtain ⟨tt, w1, hch, hh, ho, hos⟩ := r_choose (P := P) (.appendCap s.size 0 e) w
  have hg1 := Goes.same hS hh ho hos
  generalize hcap : (if (Question.appendCap s.size 0 e).forced then 0 else (Question.appendCap s.size 0 e).cut tt) = cap at hch
  have hle : s.size ≤ cap := by rw [← hcap]; simp [Question.forced, Question.cut]
  have hsz : s.data.toList.length = s.size := by simp
  generalize hcs : (s.data.map fun b => Value.int .u8 b.toNat) ++ Array.replicate (cap - s.size) (Value.int .u8 0) = cs
  have hcsz : cs.size = cap := by
    rw [← hcs]
    have : s.data.size = s.size := rfl
    simp
    omega
  have hal := Goes.alloc hg1.sim cap (.cells (Tr.ofList (cellsOfBytes s.data.toList)) s.data.toList.length e false true) (.cells cs e (cap, cap + 1)) (fun ρ' _ => .cells (by omega) (by omega)
    (fun i v hv => by
      rw [Tr.get_ofList] at hv
      rcases Nat.lt_or_ge i (cellsOfBytes s.data.toList).length with x | x
      · simpa [cellsOfBytes] using x
      · rw [List.getElem?_eq_none x] at hv; cases hv)
    (fun i v hv => by
      rw [Tr.get_ofList] at hv
      obtain ⟨v', q1, q2⟩ := (cellsOfBytes_rel (ρ := ρ') s.data.toList).get hv
      refine ⟨v', ?_, q2⟩
      have hi : i < s.data.size := by
        rcases Nat.lt_or_ge i s.data.size with x | x
        · exact x
        · rw [List.getElem?_eq_none (by simpa using x)] at q1; cases q1
      rw [← hcs, Nat.zero_add, Array.getElem?_append_left (by simpa using hi)]
      simpa using q1)
    (fun _ => .inr (by simp)) (fun q => by cases q))
  refine ⟨_, .slice (some ⟨w1.heap.size, 0, none⟩) s.size cap, _, ?_, ?_, hg1.trans hal⟩
  · have hn : (newRow e cs).run P w1 = .ok ⟨w1.heap.size, 0, none⟩ (World.add w1 (.cells cs e)) := rfl
    have hget : (World.add w1 (.cells cs e)).heap[w1.heap.size]? = some (.cells cs e (0, 0)) := by rw [add_heap]; simp
    have hsh : (World.add w1 (.cells cs e)).shape? w1.heap.size = some (e, cap) := by simp [World.shape?, hget, hcsz]
    have hfin : World.put (World.add w1 (.cells cs e)) w1.heap.size (.cells cs e (cap, cap + 1)) = World.add w1 (.cells cs e (cap, cap + 1)) := by
      have : (w1.heap.push (.cells cs e)).setIfInBounds w1.heap.size (.cells cs e (cap, cap + 1)) = w1.heap.push (.cells cs e (cap, cap + 1)) := by
        apply Array.ext_getElem?
        intro j
        rw [getElem?_setIfInBounds, Array.getElem?_push, Array.getElem?_push]
        by_cases hj : j = w1.heap.size
        · subst hj; simp
        · rw [if_neg (by omega), if_neg hj, if_neg hj]
      simp only [World.put, World.add, this]
    simp only [Conv.stringToBytes, Sem.run_bind, hch, Result.andThen_ok, hcs, hn, markStringish, run_shape, hsh, run_freeze, freeze_put hget, beq_self_eq_true, if_true, hfin, Sem.run_pure]
  · rw [hsz]
    exact .rest (b := 0) (off := 0) (n := cap) _ _ _ (by simp [Ren.add]) (by omega) hle

set_option maxHeartbeats 2000000 in
theorem r_convert (hS : Sim G ρ S w) {src dst : TypeId} {x v : VV} {x' : Value} {S' : St} (h : convertV P S src dst x = some (v, S')) (hx : VRel ρ x x') :
    ∃ ρ' v' w', (convert src dst x').run P w = .ok v' w' ∧ VRel ρ' v v' ∧ Goes G ρ S w ρ' S' w' := by
  cases hsrc : P.underlying src with
  | none => cases hx <;> simp [convertV, hsrc] at h
  | some ds =>
    cases hdst : P.underlying dst with
    | none => cases hx <;> simp [convertV, hsrc, hdst] at h
    | some dd =>
      cases hx <;> simp only [convertV, hsrc, hdst, reduceCtorEq] at h
      case int k n =>
        cases dd <;> simp only [reduceCtorEq, Option.some.injEq, Prod.mk.injEq] at h
        case int k2 =>
          obtain ⟨rfl, rfl⟩ := h
          exact ⟨ρ, _, w, by simp only [convert, Sem.run_bind, r_underlying hsrc, r_underlying hdst, Result.andThen_ok, Conv.intToInt, Sem.run_pure], .int _ _, .refl hS⟩
        case string =>
          obtain ⟨rfl, rfl⟩ := h
          exact ⟨ρ, _, w, by simp only [convert, Sem.run_bind, r_underlying hsrc, r_underlying hdst, Result.andThen_ok, Conv.intToString, Sem.run_pure], .str _, .refl hS⟩
      case str s =>
        cases dd <;> simp only [reduceCtorEq, Option.some.injEq, Prod.mk.injEq] at h
        case string =>
          obtain ⟨rfl, rfl⟩ := h
          exact ⟨ρ, _, w, by simp only [convert, Sem.run_bind, r_underlying hsrc, r_underlying hdst, Result.andThen_ok, Sem.run_pure], .str _, .refl hS⟩
        case slice e =>
          split at h
          · rename_i he
            simp only [Tr.with_eq, Option.some.injEq, Prod.mk.injEq] at h
            obtain ⟨rfl, rfl⟩ := h
            obtain ⟨ρ', v', w', e1, e2, e3⟩ := r_stringToBytes (P := P) hS e s
            exact ⟨ρ', v', w', by simp only [convert, Sem.run_bind, r_underlying hsrc, r_underlying hdst, Result.andThen_ok, r_underlying he]; exact e1, e2, e3⟩
          · cases h
      case nilSlice n c =>
        cases ds <;> try (simp only [reduceCtorEq] at h; done)
        cases dd <;> try (simp only [reduceCtorEq] at h; done)
        simp only at h
        split at h
        · rename_i he
          split at h
          · rename_i hn
            subst hn
            simp only [Option.some.injEq, Prod.mk.injEq] at h
            obtain ⟨rfl, rfl⟩ := h
            exact ⟨ρ, .string .empty, w, by simp only [convert, Sem.run_bind, r_underlying hsrc, r_underlying hdst, Result.andThen_ok, r_underlying he, Conv.bytesToString, Sem.run_pure], VRel.str ByteArray.empty, .refl hS⟩
          · cases h
        · cases h
      case slice id r b k off n c hρ =>
        cases ds <;> try (simp only [reduceCtorEq] at h; done)
        cases dd <;> try (simp only [reduceCtorEq] at h; done)
        case slice.string e =>
          simp only at h
          split at h
          · rename_i he
            cases hl : loadV S id off n with
            | none => simp [hl] at h
            | some l =>
              simp only [hl] at h
              cases hb : bytesOfV l with
              | none => simp [hb] at h
              | some s =>
                simp only [hb, Option.some.injEq, Prod.mk.injEq] at h
                obtain ⟨rfl, rfl⟩ := h
                obtain ⟨v', e1, e2⟩ := r_bytesToString (P := P) hS hl hb hρ c
                exact ⟨ρ, v', w, by simp only [convert, Sem.run_bind, r_underlying hsrc, r_underlying hdst, Result.andThen_ok, r_underlying he]; exact e1, e2, .refl hS⟩
          · cases h
        case slice.slice e0 e =>
          simp only at h
          split at h
          · rename_i he
            split at h
            · rename_i hsd
              subst hsd
              rw [hsrc] at hdst
              cases hdst
              split at h
              · rename_i cs m t mk ho
                simp only [Tr.with_eq, Option.some.injEq, Prod.mk.injEq] at h
                obtain ⟨rfl, rfl⟩ := h
                obtain ⟨w', e1, e2⟩ := r_mark (P := P) hS ho hρ (b + off)
                exact ⟨ρ, .slice (some ⟨r, b + off, none⟩) n c, w', by simp only [convert, Sem.run_bind, r_underlying hsrc, Result.andThen_ok, r_underlying he, beq_self_eq_true, e1, Sem.run_pure], .slice _ _ hρ, e2⟩
              · cases h
            · cases h
          · cases h
      case rest id r b k off n c z hρ hc hl0 =>
        cases ds <;> try (simp only [reduceCtorEq] at h; done)
        cases dd <;> try (simp only [reduceCtorEq] at h; done)
        case slice.string e =>
          simp only at h
          split at h
          · rename_i he
            cases hl : loadV S id off n with
            | none => simp [hl] at h
            | some l =>
              simp only [hl] at h
              cases hb : bytesOfV l with
              | none => simp [hb] at h
              | some s =>
                simp only [hb, Option.some.injEq, Prod.mk.injEq] at h
                obtain ⟨rfl, rfl⟩ := h
                obtain ⟨v', e1, e2⟩ := r_bytesToString (P := P) hS hl hb hρ c
                exact ⟨ρ, v', w, by simp only [convert, Sem.run_bind, r_underlying hsrc, r_underlying hdst, Result.andThen_ok, r_underlying he]; exact e1, e2, .refl hS⟩
          · cases h
        case slice.slice e0 e =>
          simp only at h
          split at h
          · rename_i he
            split at h
            · rename_i hsd
              subst hsd
              rw [hsrc] at hdst
              cases hdst
              split at h
              · rename_i cs m t mk ho
                simp only [Tr.with_eq, Option.some.injEq, Prod.mk.injEq] at h
                obtain ⟨rfl, rfl⟩ := h
                obtain ⟨w', e1, e2⟩ := r_mark (P := P) hS ho hρ (b + off)
                exact ⟨ρ, .slice (some ⟨r, b + off, none⟩) n c, w', by simp only [convert, Sem.run_bind, r_underlying hsrc, Result.andThen_ok, r_underlying he, beq_self_eq_true, e1, Sem.run_pure], .rest _ _ _ hρ hc hl0, e2⟩
              · cases h
            · cases h
          · cases h
      case restEnd id r b k off off' z hρ =>
        cases ds <;> try (simp only [reduceCtorEq] at h; done)
        cases dd <;> try (simp only [reduceCtorEq] at h; done)
        case slice.string e =>
          simp only at h
          split at h
          · rename_i he
            cases hl : loadV S id off 0 with
            | none => simp [hl] at h
            | some l =>
              have hl0 := loadV_length hl
              have : l = [] := List.length_eq_zero_iff.1 hl0
              subst this
              simp only [hl, bytesOfV, Option.some.injEq, Prod.mk.injEq] at h
              obtain ⟨rfl, rfl⟩ := h
              exact ⟨ρ, .string .empty, w, by simp [convert, r_underlying hsrc, r_underlying hdst, r_underlying he, Conv.bytesToString, loadCells, loadCellsFrom], VRel.str ByteArray.empty, .refl hS⟩
          · cases h
        case slice.slice e0 e =>
          simp only at h
          split at h
          · rename_i he
            split at h
            · rename_i hsd
              subst hsd
              rw [hsrc] at hdst
              cases hdst
              split at h
              · rename_i cs m t mk ho
                simp only [Tr.with_eq, Option.some.injEq, Prod.mk.injEq] at h
                obtain ⟨rfl, rfl⟩ := h
                obtain ⟨w', e1, e2⟩ := r_mark (P := P) hS ho hρ off'
                exact ⟨ρ, .slice (some ⟨r, off', none⟩) 0 0, w', by simp only [convert, Sem.run_bind, r_underlying hsrc, Result.andThen_ok, r_underlying he, beq_self_eq_true, e1, Sem.run_pure], .restEnd _ _ hρ, e2⟩
              · cases h
            · cases h
          · cases h
      case sliceEnd id r b k off off' hρ =>
        cases ds <;> try (simp only [reduceCtorEq] at h; done)
        cases dd <;> try (simp only [reduceCtorEq] at h; done)
        case slice.string e =>
          simp only at h
          split at h
          · rename_i he
            cases hl : loadV S id off 0 with
            | none => simp [hl] at h
            | some l =>
              have hl0 := loadV_length hl
              have : l = [] := List.length_eq_zero_iff.1 hl0
              subst this
              simp only [hl, bytesOfV, Option.some.injEq, Prod.mk.injEq] at h
              obtain ⟨rfl, rfl⟩ := h
              exact ⟨ρ, .string .empty, w, by simp [convert, r_underlying hsrc, r_underlying hdst, r_underlying he, Conv.bytesToString, loadCells, loadCellsFrom], VRel.str ByteArray.empty, .refl hS⟩
          · cases h
        case slice.slice e0 e =>
          simp only at h
          split at h
          · rename_i he
            split at h
            · rename_i hsd
              subst hsd
              rw [hsrc] at hdst
              cases hdst
              split at h
              · rename_i cs m t mk ho
                simp only [Tr.with_eq, Option.some.injEq, Prod.mk.injEq] at h
                obtain ⟨rfl, rfl⟩ := h
                obtain ⟨w', e1, e2⟩ := r_mark (P := P) hS ho hρ off'
                exact ⟨ρ, .slice (some ⟨r, off', none⟩) 0 0, w', by simp only [convert, Sem.run_bind, r_underlying hsrc, Result.andThen_ok, r_underlying he, beq_self_eq_true, e1, Sem.run_pure], .sliceEnd _ hρ, e2⟩
              · cases h
            · cases h
          · cases h


set_option maxHeartbeats 2000000 in
theorem r_convertQ (hS : Sim G ρ S w) {src dst : TypeId} {x v : VV} {x' : Value} {S' : St} (h : convertV P S src dst x = some (v, S')) (hx : VRel ρ x x') (hq : ∀ e, P.underlying dst ≠ some (.slice e)) :
    S' = S ∧ ∃ v', (convert src dst x').run P w = .ok v' w ∧ VRel ρ v v' := by
  cases hsrc : P.underlying src with
  | none => cases hx <;> simp [convertV, hsrc] at h
  | some ds =>
    cases hdst : P.underlying dst with
    | none => cases hx <;> simp [convertV, hsrc, hdst] at h
    | some dd =>
      cases hx <;> simp only [convertV, hsrc, hdst, reduceCtorEq] at h
      case int k n =>
        cases dd <;> simp only [reduceCtorEq, Option.some.injEq, Prod.mk.injEq] at h
        case int k2 =>
          obtain ⟨rfl, rfl⟩ := h
          exact ⟨rfl, _, by simp only [convert, Sem.run_bind, r_underlying hsrc, r_underlying hdst, Result.andThen_ok, Conv.intToInt, Sem.run_pure], .int _ _⟩
        case string =>
          obtain ⟨rfl, rfl⟩ := h
          exact ⟨rfl, _, by simp only [convert, Sem.run_bind, r_underlying hsrc, r_underlying hdst, Result.andThen_ok, Conv.intToString, Sem.run_pure], .str _⟩
      case str s =>
        cases dd <;> simp only [reduceCtorEq, Option.some.injEq, Prod.mk.injEq] at h
        case string =>
          obtain ⟨rfl, rfl⟩ := h
          exact ⟨rfl, _, by simp only [convert, Sem.run_bind, r_underlying hsrc, r_underlying hdst, Result.andThen_ok, Sem.run_pure], .str _⟩
        case slice e => exact absurd hdst (hq e)
      case nilSlice n c =>
        cases ds <;> try (simp only [reduceCtorEq] at h; done)
        cases dd <;> try (simp only [reduceCtorEq] at h; done)
        simp only at h
        split at h
        · rename_i he
          split at h
          · rename_i hn
            subst hn
            simp only [Option.some.injEq, Prod.mk.injEq] at h
            obtain ⟨rfl, rfl⟩ := h
            exact ⟨rfl, .string .empty, by simp only [convert, Sem.run_bind, r_underlying hsrc, r_underlying hdst, Result.andThen_ok, r_underlying he, Conv.bytesToString, Sem.run_pure], VRel.str ByteArray.empty⟩
          · cases h
        · cases h
      case slice id r b k off n c hρ =>
        cases ds <;> try (simp only [reduceCtorEq] at h; done)
        cases dd <;> try (simp only [reduceCtorEq] at h; done)
        case slice.string e =>
          simp only at h
          split at h
          · rename_i he
            cases hl : loadV S id off n with
            | none => simp [hl] at h
            | some l =>
              simp only [hl] at h
              cases hb : bytesOfV l with
              | none => simp [hb] at h
              | some s =>
                simp only [hb, Option.some.injEq, Prod.mk.injEq] at h
                obtain ⟨rfl, rfl⟩ := h
                obtain ⟨v', e1, e2⟩ := r_bytesToString (P := P) hS hl hb hρ c
                exact ⟨rfl, v', by simp only [convert, Sem.run_bind, r_underlying hsrc, r_underlying hdst, Result.andThen_ok, r_underlying he]; exact e1, e2⟩
          · cases h
        case slice.slice e0 e => exact absurd hdst (hq e)
      case rest id r b k off n c z hρ hc hl0 =>
        cases ds <;> try (simp only [reduceCtorEq] at h; done)
        cases dd <;> try (simp only [reduceCtorEq] at h; done)
        case slice.string e =>
          simp only at h
          split at h
          · rename_i he
            cases hl : loadV S id off n with
            | none => simp [hl] at h
            | some l =>
              simp only [hl] at h
              cases hb : bytesOfV l with
              | none => simp [hb] at h
              | some s =>
                simp only [hb, Option.some.injEq, Prod.mk.injEq] at h
                obtain ⟨rfl, rfl⟩ := h
                obtain ⟨v', e1, e2⟩ := r_bytesToString (P := P) hS hl hb hρ c
                exact ⟨rfl, v', by simp only [convert, Sem.run_bind, r_underlying hsrc, r_underlying hdst, Result.andThen_ok, r_underlying he]; exact e1, e2⟩
          · cases h
        case slice.slice e0 e => exact absurd hdst (hq e)
      case restEnd id r b k off off' z hρ =>
        cases ds <;> try (simp only [reduceCtorEq] at h; done)
        cases dd <;> try (simp only [reduceCtorEq] at h; done)
        case slice.string e =>
          simp only at h
          split at h
          · rename_i he
            cases hl : loadV S id off 0 with
            | none => simp [hl] at h
            | some l =>
              have hl0 := loadV_length hl
              have : l = [] := List.length_eq_zero_iff.1 hl0
              subst this
              simp only [hl, bytesOfV, Option.some.injEq, Prod.mk.injEq] at h
              obtain ⟨rfl, rfl⟩ := h
              exact ⟨rfl, .string .empty, by simp [convert, r_underlying hsrc, r_underlying hdst, r_underlying he, Conv.bytesToString, loadCells, loadCellsFrom], VRel.str ByteArray.empty⟩
          · cases h
        case slice.slice e0 e => exact absurd hdst (hq e)
      case sliceEnd id r b k off off' hρ =>
        cases ds <;> try (simp only [reduceCtorEq] at h; done)
        cases dd <;> try (simp only [reduceCtorEq] at h; done)
        case slice.string e =>
          simp only at h
          split at h
          · rename_i he
            cases hl : loadV S id off 0 with
            | none => simp [hl] at h
            | some l =>
              have hl0 := loadV_length hl
              have : l = [] := List.length_eq_zero_iff.1 hl0
              subst this
              simp only [hl, bytesOfV, Option.some.injEq, Prod.mk.injEq] at h
              obtain ⟨rfl, rfl⟩ := h
              exact ⟨rfl, .string .empty, by simp [convert, r_underlying hsrc, r_underlying hdst, r_underlying he, Conv.bytesToString, loadCells, loadCellsFrom], VRel.str ByteArray.empty⟩
          · cases h
        case slice.slice e0 e => exact absurd hdst (hq e)


end Go.Vm

/-
  A virtual semantics of the model's code (20): each simple operation is the model's.
-/
namespace Go.Vm
variable {P : Program} {G : Nat} {ρ : Ren} {S : St} {w : World}

theorem r_clearSlice {t e : TypeId} (ty : TypeId) (hS : Sim G ρ S w) (hu : P.underlying t = some (.slice e)) {id off r b k : Nat} (hρ : ρ id = some (r, b, k)) (n c : Nat) {u : VV} {S' : St}
    (h : (match n with
        | 0 => some (undefV, S)
        | n + 1 => match zeroV P e with
          | some z => match cellsV z with
            | some (c :: cs) => match storeV S id off (zerosV (c :: cs) ((n + 1) * (c :: cs).length)) with
              | some S => some (undefV, S)
              | none => none
            | _ => none
          | none => none) = some (u, S')) :
    u = undefV ∧ ∃ w', (Builtin.clear_ [t].toArray ty ⟨[.slice (some ⟨r, b + off, none⟩) n c]⟩).run P w = .ok undef w' ∧ Goes G ρ S w ρ S' w' := by
  cases n with
  | zero =>
    simp only [Option.some.injEq, Prod.mk.injEq] at h
    obtain ⟨rfl, rfl⟩ := h
    exact ⟨rfl, w, by simp [Builtin.clear_, r_underlying hu, undef], .refl hS⟩
  | succ n =>
    simp only at h
    cases hz : zeroV P e with
    | none => simp [hz] at h
    | some z =>
      obtain ⟨z', rz, ez⟩ := r_zeroValue hz
      simp only [hz] at h
      split at h
      · rename_i c0 cs hc
        have hzr : VRels ρ (c0 :: cs) z'.cells.toList := cellsV_rel hc (by rw [ez]; exact ofValue_rel ρ z')
        have hl := hzr.length
        simp only [Array.length_toList] at hl
        cases hst : storeV S id off (zerosV (c0 :: cs) ((n + 1) * (c0 :: cs).length)) with
        | none => rw [hst] at h; cases h
        | some S1 =>
          simp only [hst, Option.some.injEq, Prod.mk.injEq] at h
          obtain ⟨rfl, rfl⟩ := h
          have hrel := zerosV_rel hzr (by simp) ((n + 1) * (c0 :: cs).length)
          have e1 : (Builtin.zeroCells z'.cells (n + 1)).toList = ((Array.range ((n + 1) * (c0 :: cs).length)).map (z'.cells[· % z'.cells.size]!)).toList := by
            simp only [Builtin.zeroCells, hl]
          obtain ⟨w', f1, f2⟩ := r_storeV (P := P) hS hst hrel hρ
          refine ⟨rfl, w', ?_, f2⟩
          rw [← e1] at f1
          simp [Builtin.clear_, r_underlying hu, rz, f1, undef]
      · cases h

theorem r_clear (hS : Sim G ρ S w) {ts : List TypeId} {args : List VV} {args' : Array Value} {u : VV} {S' : St} (ty : TypeId) (h : clearV P S ts args = some (u, S')) (ha : VRels ρ args args'.toList) :
    u = undefV ∧ ∃ w', (Builtin.clear_ ts.toArray ty args').run P w = .ok undef w' ∧ Goes G ρ S w ρ S' w' := by
  unfold clearV at h
  split at h
  · rename_i t x
    obtain ⟨args'⟩ := args'
    change VRels ρ _ args' at ha
    cases ha with
    | cons hx ht =>
      cases ht
      cases hu : P.underlying t with
      | none => simp [hu] at h
      | some d =>
        cases d <;> simp only [hu, reduceCtorEq] at h
        case map kt et =>
          cases hx <;> try (simp [mapOfV] at h; done)
          case nilMap =>
            simp only [Option.some.injEq, Prod.mk.injEq] at h
            obtain ⟨rfl, rfl⟩ := h
            exact ⟨rfl, w, by simp [Builtin.clear_, r_underlying hu, undef], .refl hS⟩
          case map id r b n hρ =>
            simp only at h
            cases hm : mapOfV S (.map (some id)) with
            | none => simp [hm] at h
            | some q =>
              obtain ⟨id', es, c⟩ := q
              simp only [hm, Tr.with_eq, Option.some.injEq, Prod.mk.injEq] at h
              obtain ⟨rfl, rfl⟩ := h
              obtain ⟨r', b', n', es', e1, e2, hρ', ho, hr, he⟩ := hS.map hm (.map hρ)
              cases e1
              cases e2
              exact ⟨rfl, World.put w r (.map #[] c), by simp [Builtin.clear_, r_underlying hu, getObj_run hr (by simp), setObj_put _ hr (by simp), undef], Goes.update hS ho rfl hρ (.map .nil)⟩
        case slice e =>
          cases hx <;> try (simp only [reduceCtorEq] at h; done)
          case nilSlice n c =>
            simp only [Option.some.injEq, Prod.mk.injEq] at h
            obtain ⟨rfl, rfl⟩ := h
            exact ⟨rfl, w, by simp [Builtin.clear_, r_underlying hu, undef], .refl hS⟩
          case restEnd id r b n off off' z hρ =>
            simp only [Option.some.injEq, Prod.mk.injEq] at h
            obtain ⟨rfl, rfl⟩ := h
            exact ⟨rfl, w, by simp [Builtin.clear_, r_underlying hu, undef], .refl hS⟩
          case sliceEnd id r b n off off' hρ =>
            simp only [Option.some.injEq, Prod.mk.injEq] at h
            obtain ⟨rfl, rfl⟩ := h
            exact ⟨rfl, w, by simp [Builtin.clear_, r_underlying hu, undef], .refl hS⟩
          case slice id r b k off n c hρ => exact r_clearSlice ty hS hu hρ n c h
          case rest id r b k off n c z hρ hc hl => exact r_clearSlice ty hS hu hρ n c h
  · cases h


theorem undef_rel (ρ : Ren) : VRel ρ undefV undef := .tuple .nil

/-- what an operation comes to -/
def OpIs (P : Program) (ρ : Ren) (a : Act) (o : Oper) (w : World) (v : VV) (ρ' : Ren) (w' : World) : Prop :=
  ∃ v', ((execOp a.eval o).run P w = .ok (.value v') w' ∨ ((execOp a.eval o).run P w = .ok .skip w' ∧ v' = undef)) ∧ VRel ρ' v v'

theorem builtin_run {a : Act} {o : Oper} {c : Call} {b : Builtin} (ho : o.op = .call c) (hb : c.callee = .builtin b) :
    (execOp a.eval o).run P w = (builtin b c.argTypes o.type (c.args.map fun | .const _ => true | _ => false) (c.args.map a.eval)).run P w := by
  simp only [execOp, ho, resolve, hb, Sem.run_bind, Sem.run_pure, Result.andThen_ok, invoke]
  rfl

theorem args_rel {e : Operand → VV} {a : Act} (he : ∀ x, VRel ρ (e x) (a.eval x)) (c : Call) : VRels ρ (c.args.toList.map e) (c.args.map a.eval).toList := by
  rw [Array.toList_map]
  exact VRels.map _ fun x _ => he x

theorem simple_builtin (hS : Sim G ρ S w) {e : Operand → VV} {a : Act} {o : Oper} {c : Call} {b : Builtin} {v : VV} {S' : St} (ho : o.op = .call c) (hb : c.callee = .builtin b) (he : ∀ x, VRel ρ (e x) (a.eval x))
    (h : builtinV P S b c.argTypes.toList (c.args.toList.map e) = some (v, S')) : ∃ ρ' w', OpIs P ρ a o w v ρ' w' ∧ Goes G ρ S w ρ' S' w' ∧ (kindOf P o.op ≠ 2 → S' = S ∧ w' = w ∧ ρ' = ρ ∧ ∃ v', (execOp a.eval o).run P w = .ok (.value v') w ∧ VRel ρ v v') := by
  have hargs := args_rel he c
  have hk : kindOf P o.op = (match b with | .len => 1 | .cap | .min | .max => 0 | _ => 2) := by
    simp only [kindOf, ho, kindV, hb]
    cases b <;> rfl
  have hrun := builtin_run (P := P) (w := w) (a := a) ho hb
  have hts : c.argTypes.toList.toArray = c.argTypes := by simp
  cases b <;> simp only [builtinV, reduceCtorEq] at h
  case append =>
    obtain ⟨ρ', u', w', e1, e2, e3⟩ := r_append (P := P) hS o.type h hargs
    rw [hts] at e1
    exact ⟨ρ', w', ⟨u', .inl (by rw [hrun]; simp only [builtin, Sem.run_bind, e1, Result.andThen_ok, Sem.run_pure]), e2⟩, e3, fun q => absurd hk q⟩
  case copy =>
    obtain ⟨u', w', e1, e2, e3⟩ := r_copy (P := P) hS o.type h hargs
    rw [hts] at e1
    exact ⟨ρ, w', ⟨u', .inl (by rw [hrun]; simp only [builtin, Sem.run_bind, e1, Result.andThen_ok, Sem.run_pure]), e2⟩, e3, fun q => absurd hk q⟩
  case clear =>
    obtain ⟨rfl, w', e1, e2⟩ := r_clear (P := P) hS o.type h hargs
    rw [hts] at e1
    exact ⟨ρ, w', ⟨undef, .inl (by rw [hrun]; simp only [builtin, Sem.run_bind, e1, Result.andThen_ok, Sem.run_pure]), undef_rel ρ⟩, e2, fun q => absurd hk q⟩
  case delete =>
    split at h
    · rename_i t ts m k hts2 hargs2
      rw [hargs2] at hargs
      have hc2 : ∃ m' k', c.args.map a.eval = #[m', k'] ∧ VRel ρ m m' ∧ VRel ρ k k' := by
        generalize hq : c.args.map a.eval = q at hargs
        obtain ⟨q⟩ := q
        change VRels ρ _ q at hargs
        cases hargs with
        | cons h1 t1 => cases t1 with
          | cons h2 t2 => cases t2; exact ⟨_, _, rfl, h1, h2⟩
      obtain ⟨m', k', q1, q2, q3⟩ := hc2
      obtain ⟨rfl, w', e1, e2⟩ := r_delete (P := P) hS c.argTypes o.type (by rw [← Array.getElem?_toList, hts2]; rfl) h q2 q3
      exact ⟨ρ, w', ⟨undef, .inl (by rw [hrun, q1]; simp only [builtin, Sem.run_bind, e1, Result.andThen_ok, Sem.run_pure]), undef_rel ρ⟩, e2, fun q => absurd hk q⟩
    · cases h
  case len =>
    split at h
    · rename_i v0 hl
      simp only [Option.some.injEq, Prod.mk.injEq] at h
      obtain ⟨rfl, rfl⟩ := h
      obtain ⟨v', e1, e2⟩ := r_len (P := P) hS o.type hl hargs
      rw [hts] at e1
      have e3 : (execOp a.eval o).run P w = .ok (.value v') w := by rw [hrun]; simp only [builtin, Sem.run_bind, e1, Result.andThen_ok, Sem.run_pure]
      exact ⟨ρ, w, ⟨v', .inl e3, e2⟩, .refl hS, fun _ => ⟨rfl, rfl, rfl, v', e3, e2⟩⟩
    · cases h
  case cap =>
    split at h
    · rename_i v0 hl
      simp only [Option.some.injEq, Prod.mk.injEq] at h
      obtain ⟨rfl, rfl⟩ := h
      obtain ⟨v', e1, e2⟩ := r_cap (P := P) o.type hl hargs w
      rw [hts] at e1
      have e3 : (execOp a.eval o).run P w = .ok (.value v') w := by rw [hrun]; simp only [builtin, Sem.run_bind, e1, Result.andThen_ok, Sem.run_pure]
      exact ⟨ρ, w, ⟨v', .inl e3, e2⟩, .refl hS, fun _ => ⟨rfl, rfl, rfl, v', e3, e2⟩⟩
    · cases h
  case min =>
    split at h
    · rename_i x l hargs2
      rw [hargs2] at hargs
      split at h
      · rename_i v0 hl
        simp only [Option.some.injEq, Prod.mk.injEq] at h
        obtain ⟨rfl, rfl⟩ := h
        generalize hq : (c.args.map a.eval).toList = q at hargs
        cases hargs with
        | cons h1 t1 =>
          obtain ⟨v', e1, e2⟩ := r_minMax (P := P) false hl h1 t1 w
          simp only [Bool.false_eq_true, if_false] at e1
          have e3 : (execOp a.eval o).run P w = .ok (.value v') w := by rw [hrun]; simp only [builtin, Builtin.min_, hq, Sem.run_bind, e1, Result.andThen_ok, Sem.run_pure]
          exact ⟨ρ, w, ⟨v', .inl e3, e2⟩, .refl hS, fun _ => ⟨rfl, rfl, rfl, v', e3, e2⟩⟩
      · cases h
    · cases h
  case max =>
    split at h
    · rename_i x l hargs2
      rw [hargs2] at hargs
      split at h
      · rename_i v0 hl
        simp only [Option.some.injEq, Prod.mk.injEq] at h
        obtain ⟨rfl, rfl⟩ := h
        generalize hq : (c.args.map a.eval).toList = q at hargs
        cases hargs with
        | cons h1 t1 =>
          obtain ⟨v', e1, e2⟩ := r_minMax (P := P) true hl h1 t1 w
          simp only [if_true] at e1
          have e3 : (execOp a.eval o).run P w = .ok (.value v') w := by rw [hrun]; simp only [builtin, Builtin.max_, hq, Sem.run_bind, e1, Result.andThen_ok, Sem.run_pure]
          exact ⟨ρ, w, ⟨v', .inl e3, e2⟩, .refl hS, fun _ => ⟨rfl, rfl, rfl, v', e3, e2⟩⟩
      · cases h
    · cases h

end Go.Vm

/-
  A virtual semantics of the model's code (21): 'simpleV' is sound.
-/
namespace Go.Vm
variable {P : Program} {G : Nat} {ρ : Ren} {S : St} {w : World}

/-- an operation that leaves the state as it is -/
theorem op_quiet (hS : Sim G ρ S w) {a : Act} {o : Oper} {v : VV} {v' : Value} (hr : (execOp a.eval o).run P w = .ok (.value v') w) (hv : VRel ρ v v') :
    ∃ ρ' w', OpIs P ρ a o w v ρ' w' ∧ Goes G ρ S w ρ' S w' ∧ (kindOf P o.op ≠ 2 → S = S ∧ w' = w ∧ ρ' = ρ ∧ ∃ v', (execOp a.eval o).run P w = .ok (.value v') w ∧ VRel ρ v v') :=
  ⟨ρ, w, ⟨v', .inl hr, hv⟩, .refl hS, fun _ => ⟨rfl, rfl, rfl, v', hr, hv⟩⟩

theorem optV_some {x : Option VV} {v : VV} {S' : St} (h : optV x S = some (v, S')) : x = some v ∧ S' = S := by
  cases x with
  | none => simp [optV] at h
  | some u => simp only [optV, Option.some.injEq, Prod.mk.injEq] at h; exact ⟨by rw [h.1], h.2.symm⟩

theorem nilCheck_run {x v : VV} {x' : Value} (h : nilCheckV x = some v) (hx : VRel ρ x x') {a : Act} {o : Oper} {y : Operand} (ho : o.op = .nilCheck y) (hy : a.eval y = x') (w : World) : (execOp a.eval o).run P w = .ok (.value x') w ∧ VRel ρ v x' := by
  cases hx <;> try (simp only [nilCheckV, reduceCtorEq] at h; done)
  case ptr id r b n off hρ =>
    simp only [nilCheckV, Option.some.injEq] at h
    subst h
    exact ⟨by simp [execOp, ho, hy], .ptr hρ⟩
  case func fn fn' f c f' c' hf h1 h2 =>
    cases hf <;> simp only [nilCheckV, Option.some.injEq, reduceCtorEq] at h
    · subst h; exact ⟨by simp [execOp, ho, hy], .func (.func _) h1 h2⟩
    · rename_i hl
      subst h; exact ⟨by simp [execOp, ho, hy], .func (.yield hl) h1 h2⟩
  case iface t v0 v0' hv =>
    simp only [nilCheckV, Option.some.injEq] at h
    subst h
    exact ⟨by simp [execOp, ho, hy], .iface _ hv⟩

set_option maxHeartbeats 4000000 in
theorem simpleV_sound (hS : Sim G ρ S w) {e : Operand → VV} {a : Act} {o : Oper} {v : VV} {S' : St} (he : ∀ x, VRel ρ (e x) (a.eval x)) (h : simpleV P e S o.op = some (v, S')) :
    ∃ ρ' w', OpIs P ρ a o w v ρ' w' ∧ Goes G ρ S w ρ' S' w' ∧ (kindOf P o.op ≠ 2 → S' = S ∧ w' = w ∧ ρ' = ρ ∧ ∃ v', (execOp a.eval o).run P w = .ok (.value v') w ∧ VRel ρ v v') := by
  cases ho : o.op <;> simp only [simpleV, ho, reduceCtorEq] at h
  case move x =>
    simp only [Option.some.injEq, Prod.mk.injEq] at h
    obtain ⟨rfl, rfl⟩ := h
    exact ho ▸ op_quiet hS (by simp [execOp, ho]) (he x)
  case assign x =>
    simp only [Option.some.injEq, Prod.mk.injEq] at h
    obtain ⟨rfl, rfl⟩ := h
    exact ho ▸ op_quiet hS (by simp [execOp, ho]) (he x)
  case pick c x y =>
    have hc := he c
    split at h
    · rename_i hcc
      rw [hcc] at hc
      simp only [Option.some.injEq, Prod.mk.injEq] at h
      obtain ⟨rfl, rfl⟩ := h
      cases hq : a.eval c <;> rw [hq] at hc <;> cases hc
      exact ho ▸ op_quiet hS (by simp [execOp, ho, hq, asBool]) (he x)
    · rename_i hcc
      rw [hcc] at hc
      simp only [Option.some.injEq, Prod.mk.injEq] at h
      obtain ⟨rfl, rfl⟩ := h
      cases hq : a.eval c <;> rw [hq] at hc <;> cases hc
      exact ho ▸ op_quiet hS (by simp [execOp, ho, hq, asBool]) (he y)
    · cases h
  case alloc t =>
    obtain ⟨ρ', u', w', e1, e2, e3⟩ := r_alloc (P := P) hS h
    exact ⟨ρ', w', ⟨u', .inl (by simp only [execOp, ho, Sem.run_bind, e1, Result.andThen_ok, Sem.run_pure]), e2⟩, e3, fun q => absurd rfl q⟩
  case box t x =>
    obtain ⟨ρ', u', w', e1, e2, e3⟩ := r_box (P := P) hS h (he x)
    exact ⟨ρ', w', ⟨u', .inl (by simp only [execOp, ho, Instr.box, Sem.run_bind]; simp only [Sem.run_bind] at e1; rw [e1]; rfl), e2⟩, e3, fun q => absurd rfl q⟩
  case build t ps =>
    obtain ⟨h1, rfl⟩ := optV_some h
    obtain ⟨v', e1, e2⟩ := r_build (P := P) (parts' := ps.map fun (i, x) => (i, a.eval x)) h1 (by rw [Array.toList_map]; exact PRels.map he _) w
    exact ho ▸ op_quiet hS (by simp only [execOp, ho, Sem.run_bind, e1, Result.andThen_ok, Sem.run_pure]) e2
  case buildSlice t n ps =>
    obtain ⟨ρ', u', w', e1, e2, e3⟩ := r_buildSlice (P := P) hS (parts' := ps.map fun (i, x) => (i, a.eval x)) h (by rw [Array.toList_map]; exact PRels.map he _)
    exact ⟨ρ', w', ⟨u', .inl (by simp only [execOp, ho, Sem.run_bind, e1, Result.andThen_ok, Sem.run_pure]), e2⟩, e3, fun q => absurd rfl q⟩
  case insert t m k x =>
    obtain ⟨rfl, w', e1, e2⟩ := r_mapSet (P := P) hS h (he m) (he k) (he x)
    exact ⟨ρ, w', ⟨undef, .inr ⟨by simp only [execOp, ho, Sem.run_bind, e1, Result.andThen_ok, Sem.run_pure], rfl⟩, undef_rel ρ⟩, e2, fun q => absurd rfl q⟩
  case load t x =>
    split at h
    · rename_i id off hx
      obtain ⟨h1, rfl⟩ := optV_some h
      have hxx := he x
      rw [hx] at hxx
      obtain ⟨r, b, n, q1, v', q2, q3⟩ := r_loadVar (P := P) hS h1
      cases hq : a.eval x <;> rw [hq] at hxx <;> cases hxx
      rename_i r1 b1 n1 hρ
      rw [hρ] at q1
      cases q1
      exact ho ▸ op_quiet hS (by simp only [execOp, ho, hq, Instr.loadAt, Instr.sureAddr, Sem.run_bind, Sem.run_pure, Result.andThen_ok, q3]) q2
    · cases h
  case store t x y =>
    obtain ⟨rfl, w', e1, e2⟩ := r_storeVar (P := P) hS h (he x) (he y)
    exact ⟨ρ, w', ⟨undef, .inr ⟨by simp only [execOp, ho, Sem.run_bind, e1, Result.andThen_ok, Sem.run_pure], rfl⟩, undef_rel ρ⟩, e2, fun q => absurd rfl q⟩
  case nilCheck x =>
    obtain ⟨h1, rfl⟩ := optV_some h
    obtain ⟨e1, e2⟩ := nilCheck_run (P := P) h1 (he x) ho rfl w
    exact ho ▸ op_quiet hS e1 e2
  case binOp op t x y t2 =>
    obtain ⟨h1, rfl⟩ := optV_some h
    obtain ⟨v', e1, e2⟩ := r_bin (P := P) hS h1 (he x) (he y)
    exact ho ▸ op_quiet hS (by simp only [execOp, ho]; simp only [Sem.run_bind] at e1 ⊢; rw [e1]; rfl) e2
  case unOp op t x =>
    obtain ⟨h1, rfl⟩ := optV_some h
    obtain ⟨v', e1, e2⟩ := r_un (P := P) h1 (he x) w
    exact ho ▸ op_quiet hS (by simp only [execOp, ho, Sem.run_bind, e1, Result.andThen_ok, Sem.run_pure]) e2
  case convert src dst x =>
    by_cases hd : ∃ e, P.underlying dst = some (.slice e)
    · obtain ⟨el, hd⟩ := hd
      obtain ⟨ρ', v', w', e1, e2, e3⟩ := r_convert (P := P) hS h (he x)
      exact ⟨ρ', w', ⟨v', .inl (by simp only [execOp, ho, Sem.run_bind, e1, Result.andThen_ok, Sem.run_pure]), e2⟩, e3, fun q => absurd (by simp [kindOf, hd]) q⟩
    · obtain ⟨rfl, v', e1, e2⟩ := r_convertQ (P := P) hS h (he x) (fun e q => hd ⟨e, q⟩)
      exact ho ▸ op_quiet hS (by simp only [execOp, ho, Sem.run_bind, e1, Result.andThen_ok, Sem.run_pure]) e2
  case makeInterface t x =>
    obtain ⟨h1, rfl⟩ := optV_some h
    obtain ⟨v', e1, e2⟩ := r_makeInterface (P := P) h1 (he x) w
    exact ho ▸ op_quiet hS (by simp only [execOp, ho, Sem.run_bind, e1, Result.andThen_ok, Sem.run_pure]) e2
  case makeFunc fn f c =>
    have hfn : FnRel ρ fn fn ∧ v = .func fn (f.toList.map e) (c.toList.map e) ∧ S' = S := by
      cases fn <;> simp only [reduceCtorEq, Option.some.injEq, Prod.mk.injEq] at h <;> obtain ⟨rfl, rfl⟩ := h
      · exact ⟨.func _, rfl, rfl⟩
      · exact ⟨.method _, rfl, rfl⟩
      · exact ⟨.methodOf _ _, rfl, rfl⟩
      · exact ⟨.via _ _ _ _, rfl, rfl⟩
    obtain ⟨hf, rfl, rfl⟩ := hfn
    refine ho ▸ op_quiet hS (v' := .func fn (f.map a.eval) (c.map a.eval)) (by simp only [execOp, ho, Instr.makeFunc, Sem.run_bind, Sem.run_pure, Result.andThen_ok]) (.func hf ?_ ?_)
    · rw [Array.toList_map]; exact VRels.map _ fun x _ => he x
    · rw [Array.toList_map]; exact VRels.map _ fun x _ => he x
  case makeMap t r =>
    obtain ⟨ρ', u', w', e1, e2, e3⟩ := r_makeMap (P := P) hS h (OptRel.map he r)
    exact ⟨ρ', w', ⟨u', .inl (by simp only [execOp, ho, Sem.run_bind, e1, Result.andThen_ok, Sem.run_pure]), e2⟩, e3, fun q => absurd rfl q⟩
  case makeSlice t l c =>
    obtain ⟨ρ', u', w', e1, e2, e3⟩ := r_makeSlice (P := P) hS h (he l) (he c)
    exact ⟨ρ', w', ⟨u', .inl (by simp only [execOp, ho, Sem.run_bind, e1, Result.andThen_ok, Sem.run_pure]), e2⟩, e3, fun q => absurd rfl q⟩
  case slice t x l hh m =>
    obtain ⟨h1, rfl⟩ := optV_some h
    obtain ⟨v', e1, e2⟩ := r_slice (P := P) h1 (he x) (OptRel.map he l) (OptRel.map he hh) (OptRel.map he m) w
    exact ho ▸ op_quiet hS (by simp only [execOp, ho, Sem.run_bind, e1, Result.andThen_ok, Sem.run_pure]) e2
  case fieldAddr t x f =>
    obtain ⟨h1, rfl⟩ := optV_some h
    obtain ⟨v', e1, e2⟩ := r_fieldAddr (P := P) h1 (he x) w
    exact ho ▸ op_quiet hS (by simp only [execOp, ho, Sem.run_bind, e1, Result.andThen_ok, Sem.run_pure]) e2
  case field t x f =>
    obtain ⟨h1, rfl⟩ := optV_some h
    obtain ⟨v', e1, e2⟩ := r_field (P := P) h1 (he x) w
    exact ho ▸ op_quiet hS (by simp only [execOp, ho, Sem.run_bind, e1, Result.andThen_ok, Sem.run_pure]) e2
  case indexAddr t x i =>
    obtain ⟨h1, rfl⟩ := optV_some h
    obtain ⟨v', e1, e2⟩ := r_indexAddr (P := P) h1 (he x) (he i) w
    exact ho ▸ op_quiet hS (by simp only [execOp, ho, Sem.run_bind, e1, Result.andThen_ok, Sem.run_pure]) e2
  case index t x i =>
    obtain ⟨h1, rfl⟩ := optV_some h
    obtain ⟨v', e1, e2⟩ := r_index (P := P) h1 (he x) (he i) w
    exact ho ▸ op_quiet hS (by simp only [execOp, ho, Sem.run_bind, e1, Result.andThen_ok, Sem.run_pure]) e2
  case lookup t x i ok =>
    obtain ⟨h1, rfl⟩ := optV_some h
    obtain ⟨v', e1, e2⟩ := r_lookup (P := P) hS h1 (he x) (he i)
    exact ho ▸ op_quiet hS (by simp only [execOp, ho, Sem.run_bind, e1, Result.andThen_ok, Sem.run_pure]) e2
  case mapUpdate t m k x =>
    obtain ⟨rfl, w', e1, e2⟩ := r_mapSet (P := P) hS h (he m) (he k) (he x)
    exact ⟨ρ, w', ⟨undef, .inr ⟨by simp only [execOp, ho, Sem.run_bind, e1, Result.andThen_ok, Sem.run_pure], rfl⟩, undef_rel ρ⟩, e2, fun q => absurd rfl q⟩
  case range t x =>
    obtain ⟨ρ', u', w', e1, e2, e3⟩ := r_range (P := P) hS h (he x)
    exact ⟨ρ', w', ⟨u', .inl (by simp only [execOp, ho, Sem.run_bind, e1, Result.andThen_ok, Sem.run_pure]), e2⟩, e3, fun q => absurd rfl q⟩
  case entry x =>
    obtain ⟨h1, rfl⟩ := optV_some h
    obtain ⟨v', e1, e2⟩ := r_entry (P := P) hS h1 (he x)
    exact ho ▸ op_quiet hS (by simp only [execOp, ho, Sem.run_bind, e1, Result.andThen_ok, Sem.run_pure]) e2
  case typeAssert x xt t ok =>
    obtain ⟨h1, rfl⟩ := optV_some h
    obtain ⟨v', e1, e2⟩ := r_typeAssert (P := P) (xt := xt) h1 (he x) w
    exact ho ▸ op_quiet hS (by simp only [execOp, ho, Sem.run_bind, e1, Result.andThen_ok, Sem.run_pure]) e2
  case extract x i =>
    obtain ⟨h1, rfl⟩ := optV_some h
    obtain ⟨v', e1, e2⟩ := r_extract (P := P) h1 (he x) w
    exact ho ▸ op_quiet hS (by simp only [execOp, ho, Sem.run_bind, e1, Result.andThen_ok, Sem.run_pure]) e2
  case call c =>
    split at h
    · rename_i b hb
      exact ho ▸ simple_builtin hS ho hb he h
    · cases h

end Go.Vm
