/-
  A virtual semantics of the model's code (19): each simple operation, whole.
-/
import Derived.Test.YtgdpedfahfmjeaaGreatDoorVmR
import Derived.Test.YtgdpedfahfmjeaaGreatDoorVmL
namespace Go.Vm
variable {P : Program} {G : Nat} {ρ : Ren} {S : St} {w : World}

theorem r_append (hS : Sim G ρ S w) {ts : List TypeId} {args : List VV} {args' : Array Value} {u : VV} {S' : St} (ty : TypeId) (h : appendV P S ts args = some (u, S')) (ha : VRels ρ args args'.toList) :
    ∃ ρ' u' w', (Builtin.append_ ts.toArray ty args').run P w = .ok u' w' ∧ VRel ρ' u u' ∧ Goes G ρ S w ρ' S' w' := by
  unfold appendV at h
  split at h
  · rename_i t xt base n cap x
    obtain ⟨args'⟩ := args'
    change VRels ρ _ args' at ha
    cases ha with
    | cons hs' ht =>
      cases ht with
      | cons hx ht =>
        cases ht
        cases hu : P.underlying t with
        | none => simp [hu] at h
        | some d =>
          cases d <;> simp only [hu, reduceCtorEq] at h
          rename_i e
          cases hs : sizeV P e with
          | none => simp [hs] at h
          | some size =>
            cases hb : bytesV P e with
            | none => cases size <;> simp [hs, hb] at h
            | some bytes =>
              cases size with
              | zero => simp [hs, hb] at h
              | succ size =>
                obtain ⟨i, hi, rfl⟩ := bytesV_info hb
                simp only [hs, hb] at h
                cases hz : zeroOk P e (size + 1) with
                | false => simp [hz] at h
                | true =>
                  obtain ⟨zv, rz, zs⟩ := zeroOk_run hz
                  cases hap : appendedV P S xt e (size + 1) x with
                  | none => simp [hz, hap] at h
                  | some q =>
                    obtain ⟨new, m⟩ := q
                    simp only [hz, hap] at h
                    cases hr : roomV (n + m) i.bytes with
                    | false => simp [hr] at h
                    | true =>
                      simp only [hr] at h
                      have hm : m * i.bytes ≤ 281474976710656 := by
                        simp only [roomV, Bool.and_eq_true] at hr
                        have r1 := Nat.le_of_ble_eq_true hr.1
                        have : m * i.bytes ≤ (2 * (n + m) + 1000) * i.bytes := Nat.mul_le_mul_right _ (by omega)
                        omega
                      obtain ⟨d, new', a1, a2, a3, a4, a5⟩ := r_appended hS hap hx hz hm
                      exact r_appendTo hS ty h hs' hu hs hi rz zs hr a1 a2 a3 a4 a5
  · cases h

theorem bytesOf_rel : ∀ {l : List VV} {l' : List Value} {s : List UInt8}, bytesOfV l = some s → VRels ρ l l' → ∀ (acc : ByteArray) (w : World),
    (forIn (m := Sem) l' acc fun c r =>
      match c with
      | .int .u8 n => pure (.yield (r.push (UInt8.ofNat n.toNat)))
      | _ => do
        (stuck "bytesToString: byte expected" : Sem Unit)
        pure (.yield r)).run P w = .ok (⟨acc.data ++ s.toArray⟩ : ByteArray) w := by
  intro l
  induction l with
  | nil => intro l' s h hl acc w; cases hl; simp only [bytesOfV, Option.some.injEq] at h; subst h; simp
  | cons v l ih =>
    intro l' s h hl acc w
    cases hl with
    | cons hv ht =>
      cases hv <;> try (simp only [bytesOfV, reduceCtorEq] at h; done)
      rename_i k n
      cases k <;> try (simp only [bytesOfV, reduceCtorEq] at h; done)
      simp only [bytesOfV] at h
      cases hb : bytesOfV l with
      | none => simp [hb] at h
      | some r =>
        simp only [hb, Option.some.injEq] at h
        subst h
        simp only [List.forIn_cons, Sem.run_bind, Sem.run_pure, Result.andThen_ok]
        rw [ih hb ht]
        congr 1
        apply ByteArray.ext
        simp [ByteArray.push]

theorem r_bytesToString (hS : Sim G ρ S w) {id off n r b k : Nat} {l : List VV} {s : List UInt8} (hl : loadV S id off n = some l) (hb : bytesOfV l = some s) (hρ : ρ id = some (r, b, k)) (c : Nat) :
    ∃ v', (Conv.bytesToString (.slice (some ⟨r, b + off, none⟩) n c)).run P w = .ok v' w ∧ VRel ρ (.str s) v' := by
  obtain ⟨r1, b1, n1, h1, l', h2, h3⟩ := r_loadCells (P := P) hS hl
  rw [hρ] at h1
  simp only [Option.some.injEq, Prod.mk.injEq] at h1
  obtain ⟨rfl, rfl, rfl⟩ := h1
  have hrun := h3 ⟨r, b + off, none⟩ rfl
  have hloop := bytesOf_rel (P := P) hb h2 ByteArray.empty w
  refine ⟨.string ⟨s.toArray⟩, ?_, ?_⟩
  · simp only [Conv.bytesToString, Sem.run_bind, hrun, Result.andThen_ok]
    rw [← Array.forIn_toList]
    have e : (forIn (m := Sem) l'.toArray.toList ByteArray.empty fun c r =>
      match c with
      | .int .u8 n => pure (.yield (r.push (UInt8.ofNat n.toNat)))
      | _ => do
        (stuck "bytesToString: byte expected" : Sem Unit)
        pure (.yield r)).run P w = .ok (⟨s.toArray⟩ : ByteArray) w := by
      rw [show l'.toArray.toList = l' from rfl, hloop]
      congr 1
      apply ByteArray.ext
      simp
    exact (congrArg (fun x : Result ByteArray => x.andThen fun a w' => Sem.run P (pure (Value.string a)) w') e).trans rfl
  · have := VRel.str (ρ := ρ) (⟨s.toArray⟩ : ByteArray)
    simpa using this

theorem freeze_put {w : World} {r : Nat} {cs : Array Value} {t : TypeId} {lo hi : Nat} (h : w.heap[r]? = some (.cells cs t (lo, hi))) (n : Nat) :
    w.freeze ⟨r, n, none⟩ 1 = World.put w r (.cells cs t (if lo == hi then (n, n + 1) else (min lo n, max hi (n + 1)))) := by
  have hr : r < w.heap.size := by
    rcases Nat.lt_or_ge r w.heap.size with x | x
    · exact x
    · rw [Array.getElem?_eq_none x] at h; cases h
  have hh : (w.freeze ⟨r, n, none⟩ 1).heap = w.heap.setIfInBounds r (.cells cs t (if lo == hi then (n, n + 1) else (min lo n, max hi (n + 1)))) := by
    apply Array.ext_getElem?
    intro j
    rw [getElem?_setIfInBounds]
    simp only [World.freeze, Nat.one_ne_zero, if_false]
    rw [Array.getElem?_modify]
    by_cases e : r = j
    · subst e
      rw [h]
      simp [hr]
    · simp [e]
  have e1 : w.freeze ⟨r, n, none⟩ 1 = { w with heap := (w.freeze ⟨r, n, none⟩ 1).heap } := by
    simp only [World.freeze, Nat.one_ne_zero, if_false]
  rw [e1, hh]
  rfl

theorem r_mark (hS : Sim G ρ S w) {id m r b n : Nat} {cs : Tr VV} {t : TypeId} {mk : Bool} (ho : S.h.get id = some (.cells cs m t false mk)) (hρ : ρ id = some (r, b, n)) (off : Nat) :
    ∃ w', (markStringish ⟨r, off, none⟩).run P w = .ok () w' ∧ Goes G ρ S w ρ { S with h := S.h.set id (.cells cs m t false true) } w' := by
  obtain ⟨r1, b1, n1, cs', t', fr, h1, h2, h3, h4, h5, h6, h7, h8⟩ := hS.row ho
  rw [hρ] at h1
  simp only [Option.some.injEq, Prod.mk.injEq] at h1
  obtain ⟨rfl, rfl, rfl⟩ := h1
  obtain ⟨lo, hi⟩ := fr
  have hs : w.shape? r = some (t', cs'.size) := by simp [World.shape?, h2]
  refine ⟨World.put w r (.cells cs' t' (if lo == hi then (cs'.size, cs'.size + 1) else (min lo cs'.size, max hi (cs'.size + 1)))), by simp only [markStringish, Sem.run_bind, run_shape, hs, Result.andThen_ok, run_freeze, freeze_put h2], ?_⟩
  refine Goes.update hS ho rfl hρ (.cells h3 h4 h5 h6 (fun _ => ?_) (fun q => by cases q))
  rcases h7 rfl with q | q
  · simp only at q
    subst q
    exact .inr (by simp [h3])
  · simp only [Prod.mk.injEq] at q
    obtain ⟨rfl, rfl⟩ := q
    have : ((b + n) == (b + n + 1)) = false := by simp
    rw [this]
    exact .inr (by simp [h3])

theorem r_stringToBytes (hS : Sim G ρ S w) (e : TypeId) (s : ByteArray) : ∃ ρ' v' w', (Conv.stringToBytes e s).run P w = .ok v' w' ∧ VRel ρ' (.slice (some (S.nx, 0)) s.data.toList.length (.rest 1)) v' ∧
    Goes G ρ S w ρ' { h := S.h.set S.nx (.cells (Tr.ofList (cellsOfBytes s.data.toList)) s.data.toList.length e false true), nx := S.nx + 1 } w' := by
  obtain ⟨tt, w1, hch, hh, ho, hos⟩ := r_choose (P := P) (.appendCap s.size 0 e) w
  have hg1 := Goes.same hS hh ho hos
  generalize hcap : (if (Question.appendCap s.size 0 e).forced then 0 else (Question.appendCap s.size 0 e).cut tt) = cap at hch
  have hle : s.size ≤ cap := by rw [← hcap]; simp [Question.forced, Question.cut]
  have hsz : s.data.toList.length = s.size := by simp
  generalize hcs : (s.data.map fun b => Value.int .u8 b.toNat) ++ Array.replicate (cap - s.size) (Value.int .u8 0) = cs
  have hcsz : cs.size = cap := by
    rw [← hcs]
    have : s.data.size = s.size := rfl
    simp
    omega
  have hal := Goes.alloc hg1.sim cap (.cells (Tr.ofList (cellsOfBytes s.data.toList)) s.data.toList.length e false true) (.cells cs e (cap, cap + 1)) (fun ρ' _ => .cells (by omega) (by omega)
    (fun i v hv => by
      rw [Tr.get_ofList] at hv
      rcases Nat.lt_or_ge i (cellsOfBytes s.data.toList).length with x | x
      · simpa [cellsOfBytes] using x
      · rw [List.getElem?_eq_none x] at hv; cases hv)
    (fun i v hv => by
      rw [Tr.get_ofList] at hv
      obtain ⟨v', q1, q2⟩ := (cellsOfBytes_rel (ρ := ρ') s.data.toList).get hv
      refine ⟨v', ?_, q2⟩
      have hi : i < s.data.size := by
        rcases Nat.lt_or_ge i s.data.size with x | x
        · exact x
        · rw [List.getElem?_eq_none (by simpa using x)] at q1; cases q1
      rw [← hcs, Nat.zero_add, Array.getElem?_append_left (by simpa using hi)]
      simpa using q1)
    (fun _ => .inr (by simp)) (fun q => by cases q))
  refine ⟨_, .slice (some ⟨w1.heap.size, 0, none⟩) s.size cap, _, ?_, ?_, hg1.trans hal⟩
  · have hn : (newRow e cs).run P w1 = .ok ⟨w1.heap.size, 0, none⟩ (World.add w1 (.cells cs e)) := rfl
    have hget : (World.add w1 (.cells cs e)).heap[w1.heap.size]? = some (.cells cs e (0, 0)) := by rw [add_heap]; simp
    have hsh : (World.add w1 (.cells cs e)).shape? w1.heap.size = some (e, cap) := by simp [World.shape?, hget, hcsz]
    have hfin : World.put (World.add w1 (.cells cs e)) w1.heap.size (.cells cs e (cap, cap + 1)) = World.add w1 (.cells cs e (cap, cap + 1)) := by
      have : (w1.heap.push (.cells cs e)).setIfInBounds w1.heap.size (.cells cs e (cap, cap + 1)) = w1.heap.push (.cells cs e (cap, cap + 1)) := by
        apply Array.ext_getElem?
        intro j
        rw [getElem?_setIfInBounds, Array.getElem?_push, Array.getElem?_push]
        by_cases hj : j = w1.heap.size
        · subst hj; simp
        · rw [if_neg (by omega), if_neg hj, if_neg hj]
      simp only [World.put, World.add, this]
    simp only [Conv.stringToBytes, Sem.run_bind, hch, Result.andThen_ok, hcs, hn, markStringish, run_shape, hsh, run_freeze, freeze_put hget, beq_self_eq_true, if_true, hfin, Sem.run_pure]
  · rw [hsz]
    exact .rest (b := 0) (off := 0) (n := cap) _ _ _ (by simp [Ren.add]) (by omega) hle

set_option maxHeartbeats 2000000 in
theorem r_convert (hS : Sim G ρ S w) {src dst : TypeId} {x v : VV} {x' : Value} {S' : St} (h : convertV P S src dst x = some (v, S')) (hx : VRel ρ x x') :
    ∃ ρ' v' w', (convert src dst x').run P w = .ok v' w' ∧ VRel ρ' v v' ∧ Goes G ρ S w ρ' S' w' := by
  cases hsrc : P.underlying src with
  | none => cases hx <;> simp [convertV, hsrc] at h
  | some ds =>
    cases hdst : P.underlying dst with
    | none => cases hx <;> simp [convertV, hsrc, hdst] at h
    | some dd =>
      cases hx <;> simp only [convertV, hsrc, hdst, reduceCtorEq] at h
      case int k n =>
        cases dd <;> simp only [reduceCtorEq, Option.some.injEq, Prod.mk.injEq] at h
        case int k2 =>
          obtain ⟨rfl, rfl⟩ := h
          exact ⟨ρ, _, w, by simp only [convert, Sem.run_bind, r_underlying hsrc, r_underlying hdst, Result.andThen_ok, Conv.intToInt, Sem.run_pure], .int _ _, .refl hS⟩
        case string =>
          obtain ⟨rfl, rfl⟩ := h
          exact ⟨ρ, _, w, by simp only [convert, Sem.run_bind, r_underlying hsrc, r_underlying hdst, Result.andThen_ok, Conv.intToString, Sem.run_pure], .str _, .refl hS⟩
      case str s =>
        cases dd <;> simp only [reduceCtorEq, Option.some.injEq, Prod.mk.injEq] at h
        case string =>
          obtain ⟨rfl, rfl⟩ := h
          exact ⟨ρ, _, w, by simp only [convert, Sem.run_bind, r_underlying hsrc, r_underlying hdst, Result.andThen_ok, Sem.run_pure], .str _, .refl hS⟩
        case slice e =>
          split at h
          · rename_i he
            simp only [Tr.with_eq, Option.some.injEq, Prod.mk.injEq] at h
            obtain ⟨rfl, rfl⟩ := h
            obtain ⟨ρ', v', w', e1, e2, e3⟩ := r_stringToBytes (P := P) hS e s
            exact ⟨ρ', v', w', by simp only [convert, Sem.run_bind, r_underlying hsrc, r_underlying hdst, Result.andThen_ok, r_underlying he]; exact e1, e2, e3⟩
          · cases h
      case nilSlice n c =>
        cases ds <;> try (simp only [reduceCtorEq] at h; done)
        cases dd <;> try (simp only [reduceCtorEq] at h; done)
        simp only at h
        split at h
        · rename_i he
          split at h
          · rename_i hn
            subst hn
            simp only [Option.some.injEq, Prod.mk.injEq] at h
            obtain ⟨rfl, rfl⟩ := h
            exact ⟨ρ, .string .empty, w, by simp only [convert, Sem.run_bind, r_underlying hsrc, r_underlying hdst, Result.andThen_ok, r_underlying he, Conv.bytesToString, Sem.run_pure], VRel.str ByteArray.empty, .refl hS⟩
          · cases h
        · cases h
      case slice id r b k off n c hρ =>
        cases ds <;> try (simp only [reduceCtorEq] at h; done)
        cases dd <;> try (simp only [reduceCtorEq] at h; done)
        case slice.string e =>
          simp only at h
          split at h
          · rename_i he
            cases hl : loadV S id off n with
            | none => simp [hl] at h
            | some l =>
              simp only [hl] at h
              cases hb : bytesOfV l with
              | none => simp [hb] at h
              | some s =>
                simp only [hb, Option.some.injEq, Prod.mk.injEq] at h
                obtain ⟨rfl, rfl⟩ := h
                obtain ⟨v', e1, e2⟩ := r_bytesToString (P := P) hS hl hb hρ c
                exact ⟨ρ, v', w, by simp only [convert, Sem.run_bind, r_underlying hsrc, r_underlying hdst, Result.andThen_ok, r_underlying he]; exact e1, e2, .refl hS⟩
          · cases h
        case slice.slice e0 e =>
          simp only at h
          split at h
          · rename_i he
            split at h
            · rename_i hsd
              subst hsd
              rw [hsrc] at hdst
              cases hdst
              split at h
              · rename_i cs m t mk ho
                simp only [Tr.with_eq, Option.some.injEq, Prod.mk.injEq] at h
                obtain ⟨rfl, rfl⟩ := h
                obtain ⟨w', e1, e2⟩ := r_mark (P := P) hS ho hρ (b + off)
                exact ⟨ρ, .slice (some ⟨r, b + off, none⟩) n c, w', by simp only [convert, Sem.run_bind, r_underlying hsrc, Result.andThen_ok, r_underlying he, beq_self_eq_true, e1, Sem.run_pure], .slice _ _ hρ, e2⟩
              · cases h
            · cases h
          · cases h
      case rest id r b k off n c z hρ hc hl0 =>
        cases ds <;> try (simp only [reduceCtorEq] at h; done)
        cases dd <;> try (simp only [reduceCtorEq] at h; done)
        case slice.string e =>
          simp only at h
          split at h
          · rename_i he
            cases hl : loadV S id off n with
            | none => simp [hl] at h
            | some l =>
              simp only [hl] at h
              cases hb : bytesOfV l with
              | none => simp [hb] at h
              | some s =>
                simp only [hb, Option.some.injEq, Prod.mk.injEq] at h
                obtain ⟨rfl, rfl⟩ := h
                obtain ⟨v', e1, e2⟩ := r_bytesToString (P := P) hS hl hb hρ c
                exact ⟨ρ, v', w, by simp only [convert, Sem.run_bind, r_underlying hsrc, r_underlying hdst, Result.andThen_ok, r_underlying he]; exact e1, e2, .refl hS⟩
          · cases h
        case slice.slice e0 e =>
          simp only at h
          split at h
          · rename_i he
            split at h
            · rename_i hsd
              subst hsd
              rw [hsrc] at hdst
              cases hdst
              split at h
              · rename_i cs m t mk ho
                simp only [Tr.with_eq, Option.some.injEq, Prod.mk.injEq] at h
                obtain ⟨rfl, rfl⟩ := h
                obtain ⟨w', e1, e2⟩ := r_mark (P := P) hS ho hρ (b + off)
                exact ⟨ρ, .slice (some ⟨r, b + off, none⟩) n c, w', by simp only [convert, Sem.run_bind, r_underlying hsrc, Result.andThen_ok, r_underlying he, beq_self_eq_true, e1, Sem.run_pure], .rest _ _ _ hρ hc hl0, e2⟩
              · cases h
            · cases h
          · cases h
      case restEnd id r b k off off' z hρ =>
        cases ds <;> try (simp only [reduceCtorEq] at h; done)
        cases dd <;> try (simp only [reduceCtorEq] at h; done)
        case slice.string e =>
          simp only at h
          split at h
          · rename_i he
            cases hl : loadV S id off 0 with
            | none => simp [hl] at h
            | some l =>
              have hl0 := loadV_length hl
              have : l = [] := List.length_eq_zero_iff.1 hl0
              subst this
              simp only [hl, bytesOfV, Option.some.injEq, Prod.mk.injEq] at h
              obtain ⟨rfl, rfl⟩ := h
              exact ⟨ρ, .string .empty, w, by simp [convert, r_underlying hsrc, r_underlying hdst, r_underlying he, Conv.bytesToString, loadCells, loadCellsFrom], VRel.str ByteArray.empty, .refl hS⟩
          · cases h
        case slice.slice e0 e =>
          simp only at h
          split at h
          · rename_i he
            split at h
            · rename_i hsd
              subst hsd
              rw [hsrc] at hdst
              cases hdst
              split at h
              · rename_i cs m t mk ho
                simp only [Tr.with_eq, Option.some.injEq, Prod.mk.injEq] at h
                obtain ⟨rfl, rfl⟩ := h
                obtain ⟨w', e1, e2⟩ := r_mark (P := P) hS ho hρ off'
                exact ⟨ρ, .slice (some ⟨r, off', none⟩) 0 0, w', by simp only [convert, Sem.run_bind, r_underlying hsrc, Result.andThen_ok, r_underlying he, beq_self_eq_true, e1, Sem.run_pure], .restEnd _ _ hρ, e2⟩
              · cases h
            · cases h
          · cases h
      case sliceEnd id r b k off off' hρ =>
        cases ds <;> try (simp only [reduceCtorEq] at h; done)
        cases dd <;> try (simp only [reduceCtorEq] at h; done)
        case slice.string e =>
          simp only at h
          split at h
          · rename_i he
            cases hl : loadV S id off 0 with
            | none => simp [hl] at h
            | some l =>
              have hl0 := loadV_length hl
              have : l = [] := List.length_eq_zero_iff.1 hl0
              subst this
              simp only [hl, bytesOfV, Option.some.injEq, Prod.mk.injEq] at h
              obtain ⟨rfl, rfl⟩ := h
              exact ⟨ρ, .string .empty, w, by simp [convert, r_underlying hsrc, r_underlying hdst, r_underlying he, Conv.bytesToString, loadCells, loadCellsFrom], VRel.str ByteArray.empty, .refl hS⟩
          · cases h
        case slice.slice e0 e =>
          simp only at h
          split at h
          · rename_i he
            split at h
            · rename_i hsd
              subst hsd
              rw [hsrc] at hdst
              cases hdst
              split at h
              · rename_i cs m t mk ho
                simp only [Tr.with_eq, Option.some.injEq, Prod.mk.injEq] at h
                obtain ⟨rfl, rfl⟩ := h
                obtain ⟨w', e1, e2⟩ := r_mark (P := P) hS ho hρ off'
                exact ⟨ρ, .slice (some ⟨r, off', none⟩) 0 0, w', by simp only [convert, Sem.run_bind, r_underlying hsrc, Result.andThen_ok, r_underlying he, beq_self_eq_true, e1, Sem.run_pure], .sliceEnd _ hρ, e2⟩
              · cases h
            · cases h
          · cases h


set_option maxHeartbeats 2000000 in
theorem r_convertQ (hS : Sim G ρ S w) {src dst : TypeId} {x v : VV} {x' : Value} {S' : St} (h : convertV P S src dst x = some (v, S')) (hx : VRel ρ x x') (hq : ∀ e, P.underlying dst ≠ some (.slice e)) :
    S' = S ∧ ∃ v', (convert src dst x').run P w = .ok v' w ∧ VRel ρ v v' := by
  cases hsrc : P.underlying src with
  | none => cases hx <;> simp [convertV, hsrc] at h
  | some ds =>
    cases hdst : P.underlying dst with
    | none => cases hx <;> simp [convertV, hsrc, hdst] at h
    | some dd =>
      cases hx <;> simp only [convertV, hsrc, hdst, reduceCtorEq] at h
      case int k n =>
        cases dd <;> simp only [reduceCtorEq, Option.some.injEq, Prod.mk.injEq] at h
        case int k2 =>
          obtain ⟨rfl, rfl⟩ := h
          exact ⟨rfl, _, by simp only [convert, Sem.run_bind, r_underlying hsrc, r_underlying hdst, Result.andThen_ok, Conv.intToInt, Sem.run_pure], .int _ _⟩
        case string =>
          obtain ⟨rfl, rfl⟩ := h
          exact ⟨rfl, _, by simp only [convert, Sem.run_bind, r_underlying hsrc, r_underlying hdst, Result.andThen_ok, Conv.intToString, Sem.run_pure], .str _⟩
      case str s =>
        cases dd <;> simp only [reduceCtorEq, Option.some.injEq, Prod.mk.injEq] at h
        case string =>
          obtain ⟨rfl, rfl⟩ := h
          exact ⟨rfl, _, by simp only [convert, Sem.run_bind, r_underlying hsrc, r_underlying hdst, Result.andThen_ok, Sem.run_pure], .str _⟩
        case slice e => exact absurd hdst (hq e)
      case nilSlice n c =>
        cases ds <;> try (simp only [reduceCtorEq] at h; done)
        cases dd <;> try (simp only [reduceCtorEq] at h; done)
        simp only at h
        split at h
        · rename_i he
          split at h
          · rename_i hn
            subst hn
            simp only [Option.some.injEq, Prod.mk.injEq] at h
            obtain ⟨rfl, rfl⟩ := h
            exact ⟨rfl, .string .empty, by simp only [convert, Sem.run_bind, r_underlying hsrc, r_underlying hdst, Result.andThen_ok, r_underlying he, Conv.bytesToString, Sem.run_pure], VRel.str ByteArray.empty⟩
          · cases h
        · cases h
      case slice id r b k off n c hρ =>
        cases ds <;> try (simp only [reduceCtorEq] at h; done)
        cases dd <;> try (simp only [reduceCtorEq] at h; done)
        case slice.string e =>
          simp only at h
          split at h
          · rename_i he
            cases hl : loadV S id off n with
            | none => simp [hl] at h
            | some l =>
              simp only [hl] at h
              cases hb : bytesOfV l with
              | none => simp [hb] at h
              | some s =>
                simp only [hb, Option.some.injEq, Prod.mk.injEq] at h
                obtain ⟨rfl, rfl⟩ := h
                obtain ⟨v', e1, e2⟩ := r_bytesToString (P := P) hS hl hb hρ c
                exact ⟨rfl, v', by simp only [convert, Sem.run_bind, r_underlying hsrc, r_underlying hdst, Result.andThen_ok, r_underlying he]; exact e1, e2⟩
          · cases h
        case slice.slice e0 e => exact absurd hdst (hq e)
      case rest id r b k off n c z hρ hc hl0 =>
        cases ds <;> try (simp only [reduceCtorEq] at h; done)
        cases dd <;> try (simp only [reduceCtorEq] at h; done)
        case slice.string e =>
          simp only at h
          split at h
          · rename_i he
            cases hl : loadV S id off n with
            | none => simp [hl] at h
            | some l =>
              simp only [hl] at h
              cases hb : bytesOfV l with
              | none => simp [hb] at h
              | some s =>
                simp only [hb, Option.some.injEq, Prod.mk.injEq] at h
                obtain ⟨rfl, rfl⟩ := h
                obtain ⟨v', e1, e2⟩ := r_bytesToString (P := P) hS hl hb hρ c
                exact ⟨rfl, v', by simp only [convert, Sem.run_bind, r_underlying hsrc, r_underlying hdst, Result.andThen_ok, r_underlying he]; exact e1, e2⟩
          · cases h
        case slice.slice e0 e => exact absurd hdst (hq e)
      case restEnd id r b k off off' z hρ =>
        cases ds <;> try (simp only [reduceCtorEq] at h; done)
        cases dd <;> try (simp only [reduceCtorEq] at h; done)
        case slice.string e =>
          simp only at h
          split at h
          · rename_i he
            cases hl : loadV S id off 0 with
            | none => simp [hl] at h
            | some l =>
              have hl0 := loadV_length hl
              have : l = [] := List.length_eq_zero_iff.1 hl0
              subst this
              simp only [hl, bytesOfV, Option.some.injEq, Prod.mk.injEq] at h
              obtain ⟨rfl, rfl⟩ := h
              exact ⟨rfl, .string .empty, by simp [convert, r_underlying hsrc, r_underlying hdst, r_underlying he, Conv.bytesToString, loadCells, loadCellsFrom], VRel.str ByteArray.empty⟩
          · cases h
        case slice.slice e0 e => exact absurd hdst (hq e)
      case sliceEnd id r b k off off' hρ =>
        cases ds <;> try (simp only [reduceCtorEq] at h; done)
        cases dd <;> try (simp only [reduceCtorEq] at h; done)
        case slice.string e =>
          simp only at h
          split at h
          · rename_i he
            cases hl : loadV S id off 0 with
            | none => simp [hl] at h
            | some l =>
              have hl0 := loadV_length hl
              have : l = [] := List.length_eq_zero_iff.1 hl0
              subst this
              simp only [hl, bytesOfV, Option.some.injEq, Prod.mk.injEq] at h
              obtain ⟨rfl, rfl⟩ := h
              exact ⟨rfl, .string .empty, by simp [convert, r_underlying hsrc, r_underlying hdst, r_underlying he, Conv.bytesToString, loadCells, loadCellsFrom], VRel.str ByteArray.empty⟩
          · cases h
        case slice.slice e0 e => exact absurd hdst (hq e)


end Go.Vm
