/-
  A virtual semantics of the model's code (6): one object is changed, made, dropped.
-/
import Derived.Test.YtgdpedfahfmjeaaGreatDoorVmE
namespace Go.Vm

theorem evO_rel {G : Nat} {ρ : Ren} {S : St} {w : World} (hS : Sim G ρ S w) {look : Tmp → Option VV} {a : Act} (h : ∀ t v, look t = some v → VRel ρ v (a.tmps.getD t undef)) (x : Operand) :
    VRel ρ (evO G look x) (a.eval x) := by
  cases x with
  | tmp t =>
    simp only [evO, Act.eval]
    cases hl : look t with
    | none => exact .any _
    | some v => exact h t v hl
  | const v => exact ofValue_rel ρ v
  | global g =>
    simp only [evO, Act.eval]
    cases hg : Nat.blt g G with
    | false => exact .any _
    | true =>
      obtain ⟨n, hn⟩ := hS.glob g (by simpa [Nat.blt_eq] using hg)
      exact .ptr (b := 0) (off := 0) hn
  | func f => exact .func (.func f) .nil .nil

theorem getElem?_setIfInBounds {α : Type} (a : Array α) (i j : Nat) (v : α) : (a.setIfInBounds i v)[j]? = if i = j ∧ i < a.size then some v else a[j]? := by
  rw [Array.getElem?_setIfInBounds]
  by_cases h : i = j
  · subst h
    by_cases h2 : i < a.size
    · simp [h2]
    · simp [h2]
  · simp [h]

def World.put (w : World) (r : Nat) (o : Obj) : World := { w with heap := w.heap.setIfInBounds r o }
def World.add (w : World) (o : Obj) : World := { w with heap := w.heap.push o }

theorem put_heap (w : World) (r j : Nat) (o : Obj) (hr : r < w.heap.size) : (World.put w r o).heap[j]? = if r = j then some o else w.heap[j]? := by
  simp only [World.put, getElem?_setIfInBounds]
  by_cases h : r = j
  · subst h; simp [hr]
  · simp [h]

theorem add_heap (w : World) (j : Nat) (o : Obj) : (World.add w o).heap[j]? = if j = w.heap.size then some o else w.heap[j]? := by
  simp only [World.add, Array.getElem?_push]

def Ren.add (ρ : Ren) (id : Nat) (x : Nat × Nat × Nat) : Ren := fun j => if j = id then some x else ρ j

theorem Ren.le_add {ρ : Ren} {id : Nat} {x : Nat × Nat × Nat} (h : ρ id = none) : ρ.le (ρ.add id x) := by
  intro j y hj
  simp only [Ren.add]
  by_cases e : j = id
  · subst e; rw [h] at hj; cases hj
  · simp [e, hj]

/-- the same heap -/
theorem Goes.same {G : Nat} {ρ : Ren} {S : St} {w w' : World} (hS : Sim G ρ S w) (hh : w'.heap = w.heap) (ho : w'.output = w.output) (hs : w'.os = w.os) : Goes G ρ S w ρ S w' where
  ext := ρ.le_refl
  sim := ⟨fun id o h => by rw [hh]; exact hS.obj id o h, hS.inj, hS.fresh, fun id r b n h => by rw [hh]; exact hS.low id r b n h, hS.glob⟩
  size := by rw [hh]; exact Nat.le_refl _
  output := ho
  os := hs
  keep r _ _ := by rw [hh]
  wl _ _ h := h
  dom _ _ h := h

/-- an object is changed -/
theorem Goes.update {G : Nat} {ρ : Ren} {S : St} {w : World} (hS : Sim G ρ S w) {id r b n : Nat} {o onew : VObj} {onew' : Obj} (hid : S.h.get id = some o) (hro : o.ro = false) (hρ : ρ id = some (r, b, n))
    (ho : ORel ρ b n onew onew') : Goes G ρ S w ρ { S with h := S.h.set id onew } (World.put w r onew') where
  ext := ρ.le_refl
  sim := {
    obj := by
      intro j oj hj
      have hr := hS.low id r b n hρ
      simp only [Tr.get_set] at hj
      by_cases e : j = id
      · subst e
        simp only [if_true, Option.some.injEq] at hj
        subst hj
        exact ⟨r, b, n, onew', hρ, by rw [put_heap _ _ _ _ hr]; simp, ho⟩
      · simp only [e, if_false] at hj
        obtain ⟨rj, bj, nj, oj', h1, h2, h3⟩ := hS.obj j oj hj
        refine ⟨rj, bj, nj, oj', h1, ?_, h3⟩
        rw [put_heap _ _ _ _ hr, if_neg, h2]
        rintro rfl
        exact e (hS.inj j id oj o r bj nj b n hj hid h1 hρ)
    inj := by
      intro i j oi oj q bi ni bj nj hi hj h1 h2
      simp only [Tr.get_set] at hi hj
      have hx : ∀ k ok, (if k = id then some onew else S.h.get k) = some ok → ∃ ok', S.h.get k = some ok' := by
        intro k ok hk
        by_cases e : k = id
        · subst e; exact ⟨o, hid⟩
        · simp only [e, if_false] at hk; exact ⟨ok, hk⟩
      obtain ⟨oi', hi'⟩ := hx i oi hi
      obtain ⟨oj', hj'⟩ := hx j oj hj
      exact hS.inj i j oi' oj' q bi ni bj nj hi' hj' h1 h2
    fresh := hS.fresh
    low := fun i q b n h => by simpa [World.put] using hS.low i q b n h
    glob := hS.glob }
  size := by simp [World.put]
  output := rfl
  os := rfl
  keep q hq hw := by
    rw [put_heap _ _ _ _ (hS.low id r b n hρ), if_neg]
    rintro rfl
    exact hw ⟨id, o, b, n, hid, hro, hρ⟩
  wl := by
    rintro q _ ⟨j, oj, bj, nj, hj, hroj, hρj⟩
    simp only [Tr.get_set] at hj
    by_cases e : j = id
    · subst e
      rw [hρ] at hρj
      cases hρj
      exact ⟨j, o, b, n, hid, hro, hρ⟩
    · simp only [e, if_false] at hj
      exact ⟨j, oj, bj, nj, hj, hroj, hρj⟩
  dom := by
    rintro q _ ⟨j, oj, bj, nj, hj, hρj⟩
    simp only [Tr.get_set] at hj
    by_cases e : j = id
    · subst e
      rw [hρ] at hρj
      cases hρj
      exact ⟨j, o, b, n, hid, hρ⟩
    · simp only [e, if_false] at hj
      exact ⟨j, oj, bj, nj, hj, hρj⟩

/-- an object is made -/
theorem Goes.alloc {G : Nat} {ρ : Ren} {S : St} {w : World} (hS : Sim G ρ S w) (n : Nat) (o : VObj) (o' : Obj) (ho : ∀ ρ' : Ren, ρ.le ρ' → ORel ρ' 0 n o o') :
    Goes G ρ S w (ρ.add S.nx (w.heap.size, 0, n)) { h := S.h.set S.nx o, nx := S.nx + 1 } (World.add w o') := by
  have hle : ρ.le (ρ.add S.nx (w.heap.size, 0, n)) := Ren.le_add (hS.fresh _ (Nat.le_refl _))
  have hne : ∀ j oj, S.h.get j = some oj → j ≠ S.nx := by
    rintro j oj hj rfl
    obtain ⟨r, b, m, o', h, _⟩ := hS.obj _ _ hj
    rw [hS.fresh _ (Nat.le_refl _)] at h
    cases h
  refine ⟨hle, ⟨?_, ?_, ?_, ?_, ?_⟩, by simp [World.add], rfl, rfl, ?_, ?_, ?_⟩
  · intro j oj hj
    simp only [Tr.get_set] at hj
    by_cases e : j = S.nx
    · subst e
      simp only [if_true, Option.some.injEq] at hj
      subst hj
      exact ⟨w.heap.size, 0, n, o', by simp [Ren.add], by rw [add_heap]; simp, ho _ hle⟩
    · simp only [e, if_false] at hj
      obtain ⟨r, b, m, oj', h1, h2, h3⟩ := hS.obj j oj hj
      refine ⟨r, b, m, oj', hle _ _ h1, ?_, h3.mono hle⟩
      rw [add_heap, if_neg, h2]
      have := hS.low j r b m h1
      omega
  · intro i j oi oj q bi ni bj nj hi hj h1 h2
    simp only [Tr.get_set] at hi hj
    simp only [Ren.add] at h1 h2
    by_cases ei : i = S.nx <;> by_cases ej : j = S.nx
    · rw [ei, ej]
    · simp only [ei, if_true, Option.some.injEq, Prod.mk.injEq] at h1
      simp only [ej, if_false] at h2
      have := hS.low j q bj nj h2
      omega
    · simp only [ej, if_true, Option.some.injEq, Prod.mk.injEq] at h2
      simp only [ei, if_false] at h1
      have := hS.low i q bi ni h1
      omega
    · simp only [ei, ej, if_false] at h1 h2 hi hj
      exact hS.inj i j oi oj q bi ni bj nj hi hj h1 h2
  · intro id hid
    simp only at hid
    simp only [Ren.add]
    rw [if_neg (by omega)]
    exact hS.fresh id (by omega)
  · intro id r b m h
    simp only [Ren.add] at h
    simp only [World.add, Array.size_push]
    by_cases e : id = S.nx
    · simp only [e, if_true, Option.some.injEq, Prod.mk.injEq] at h
      omega
    · simp only [e, if_false] at h
      have := hS.low id r b m h
      omega
  · intro g hg
    obtain ⟨m, hm⟩ := hS.glob g hg
    exact ⟨m, hle _ _ hm⟩
  · intro r hr _
    rw [add_heap, if_neg (by omega)]
  · rintro r hr ⟨j, oj, bj, nj, hj, hroj, hρj⟩
    simp only [Tr.get_set] at hj
    simp only [Ren.add] at hρj
    by_cases e : j = S.nx
    · simp only [e, if_true, Option.some.injEq, Prod.mk.injEq] at hρj
      omega
    · simp only [e, if_false] at hj hρj
      exact ⟨j, oj, bj, nj, hj, hroj, hρj⟩
  · rintro r hr ⟨j, oj, bj, nj, hj, hρj⟩
    simp only [Tr.get_set] at hj
    simp only [Ren.add] at hρj
    by_cases e : j = S.nx
    · simp only [e, if_true, Option.some.injEq, Prod.mk.injEq] at hρj
      omega
    · simp only [e, if_false] at hj hρj
      exact ⟨j, oj, bj, nj, hj, hρj⟩

/-- an object is forgotten -/
theorem Goes.drop {G : Nat} {ρ : Ren} {S : St} {w : World} (hS : Sim G ρ S w) (id : Nat) : Goes G ρ S w ρ { S with h := S.h.del id } w where
  ext := ρ.le_refl
  sim := by
    have hx : ∀ j oj, ({ S with h := S.h.del id } : St).h.get j = some oj → S.h.get j = some oj := by
      intro j oj hj
      simp only [Tr.get_del] at hj
      by_cases e : j = id
      · simp [e] at hj
      · simpa [e] using hj
    exact ⟨fun j oj hj => hS.obj j oj (hx j oj hj), fun i j oi oj q bi ni bj nj hi hj h1 h2 => hS.inj i j oi oj q bi ni bj nj (hx i oi hi) (hx j oj hj) h1 h2, hS.fresh, hS.low, hS.glob⟩
  size := Nat.le_refl _
  output := rfl
  os := rfl
  keep _ _ _ := rfl
  wl := by
    rintro q _ ⟨j, oj, bj, nj, hj, hroj, hρj⟩
    simp only [Tr.get_del] at hj
    by_cases e : j = id
    · simp [e] at hj
    · simp only [e, if_false] at hj
      exact ⟨j, oj, bj, nj, hj, hroj, hρj⟩
  dom := by
    rintro q _ ⟨j, oj, bj, nj, hj, hρj⟩
    simp only [Tr.get_del] at hj
    by_cases e : j = id
    · simp [e] at hj
    · simp only [e, if_false] at hj
      exact ⟨j, oj, bj, nj, hj, hρj⟩

/-- an object is forgotten, and its cells, from somewhere on, are another one's -/
theorem Goes.become {G : Nat} {ρ : Ren} {S : St} {w : World} (hS : Sim G ρ S w) {id r b n b' n' : Nat} {o onew : VObj} {onew' : Obj} (hid : S.h.get id = some o) (hro : o.ro = false) (hρ : ρ id = some (r, b, n))
    (ho : ∀ ρ' : Ren, ρ.le ρ' → ORel ρ' b' n' onew onew') :
    Goes G ρ S w (ρ.add S.nx (r, b', n')) { h := (S.h.del id).set S.nx onew, nx := S.nx + 1 } (World.put w r onew') := by
  have hle : ρ.le (ρ.add S.nx (r, b', n')) := Ren.le_add (hS.fresh _ (Nat.le_refl _))
  have hr := hS.low id r b n hρ
  have hne : ∀ j oj, S.h.get j = some oj → j ≠ S.nx := by
    rintro j oj hj rfl
    obtain ⟨r, b, m, o', h, _⟩ := hS.obj _ _ hj
    rw [hS.fresh _ (Nat.le_refl _)] at h
    cases h
  have hx : ∀ j oj, ((S.h.del id).set S.nx onew).get j = some oj → (j = S.nx ∧ oj = onew) ∨ (j ≠ S.nx ∧ j ≠ id ∧ S.h.get j = some oj) := by
    intro j oj hj
    simp only [Tr.get_set, Tr.get_del] at hj
    by_cases e : j = S.nx
    · simp only [e, if_true, Option.some.injEq] at hj; exact .inl ⟨e, hj.symm⟩
    · by_cases e2 : j = id
      · simp [e, e2] at hj
        obtain ⟨h1, h2⟩ := hj
        exact absurd (e2.trans h1) e
      · simp only [e, e2, if_false] at hj
        exact .inr ⟨e, e2, hj⟩
  refine ⟨hle, ⟨?_, ?_, ?_, ?_, ?_⟩, by simp [World.put], rfl, rfl, ?_, ?_, ?_⟩
  · intro j oj hj
    rcases hx j oj hj with ⟨rfl, rfl⟩ | ⟨e1, e2, h0⟩
    · exact ⟨r, b', n', onew', by simp [Ren.add], by rw [put_heap _ _ _ _ hr]; simp, ho _ hle⟩
    · obtain ⟨q, bj, nj, oj', h1, h2, h3⟩ := hS.obj j oj h0
      refine ⟨q, bj, nj, oj', hle _ _ h1, ?_, h3.mono hle⟩
      rw [put_heap _ _ _ _ hr, if_neg, h2]
      rintro rfl
      exact e2 (hS.inj j id oj o r bj nj b n h0 hid h1 hρ)
  · intro i j oi oj q bi ni bj nj hi hj h1 h2
    simp only [Ren.add] at h1 h2
    rcases hx i oi hi with ⟨rfl, rfl⟩ | ⟨ei1, ei2, hi0⟩ <;> rcases hx j oj hj with ⟨rfl, rfl⟩ | ⟨ej1, ej2, hj0⟩
    · rfl
    · simp only [if_true, Option.some.injEq, Prod.mk.injEq] at h1
      simp only [ej1, if_false] at h2
      obtain ⟨rfl, _⟩ := h1
      exact absurd (hS.inj j id oj o r bj nj b n hj0 hid h2 hρ) ej2
    · simp only [if_true, Option.some.injEq, Prod.mk.injEq] at h2
      simp only [ei1, if_false] at h1
      obtain ⟨rfl, _⟩ := h2
      exact absurd (hS.inj i id oi o r bi ni b n hi0 hid h1 hρ) ei2
    · simp only [ei1, ej1, if_false] at h1 h2
      exact hS.inj i j oi oj q bi ni bj nj hi0 hj0 h1 h2
  · intro k hk
    simp only at hk
    simp only [Ren.add]
    rw [if_neg (by omega)]
    exact hS.fresh k (by omega)
  · intro k q bk m h
    simp only [Ren.add] at h
    simp only [World.put, Array.size_setIfInBounds]
    by_cases e : k = S.nx
    · simp only [e, if_true, Option.some.injEq, Prod.mk.injEq] at h
      omega
    · simp only [e, if_false] at h
      exact hS.low k q bk m h
  · intro g hg
    obtain ⟨m, hm⟩ := hS.glob g hg
    exact ⟨m, hle _ _ hm⟩
  · intro q hq hw
    rw [put_heap _ _ _ _ hr, if_neg]
    rintro rfl
    exact hw ⟨id, o, b, n, hid, hro, hρ⟩
  · rintro q hq ⟨j, oj, bj, nj, hj, hroj, hρj⟩
    simp only [Ren.add] at hρj
    rcases hx j oj hj with ⟨rfl, rfl⟩ | ⟨e1, e2, h0⟩
    · simp only [if_true, Option.some.injEq, Prod.mk.injEq] at hρj
      obtain ⟨rfl, _⟩ := hρj
      exact ⟨id, o, b, n, hid, hro, hρ⟩
    · simp only [e1, if_false] at hρj
      exact ⟨j, oj, bj, nj, h0, hroj, hρj⟩
  · rintro q hq ⟨j, oj, bj, nj, hj, hρj⟩
    simp only [Ren.add] at hρj
    rcases hx j oj hj with ⟨rfl, rfl⟩ | ⟨e1, e2, h0⟩
    · simp only [if_true, Option.some.injEq, Prod.mk.injEq] at hρj
      obtain ⟨rfl, _⟩ := hρj
      exact ⟨id, o, b, n, hid, hρ⟩
    · simp only [e1, if_false] at hρj
      exact ⟨j, oj, bj, nj, h0, hρj⟩

end Go.Vm
