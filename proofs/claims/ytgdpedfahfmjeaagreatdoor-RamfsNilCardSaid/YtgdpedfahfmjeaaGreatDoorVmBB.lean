/-
  A virtual semantics of the model's code (28): orders of a region.
-/
import Derived.Test.YtgdpedfahfmjeaaGreatDoorVmBA
import Derived.Orders
namespace Go.Vm
variable {P : Program} {ops : Array Oper}

/-- j must be ahead of i, by an edge -/
def Edge1 (ops : Array Oper) (j i : Nat) : Prop := ∃ o, ops[i]? = some o ∧ ∃ e ∈ o.after, Region.binds .any e = true ∧ e.on = j

structure DrawOk (P : Program) (ops : Array Oper) : Prop where
  back : ∀ i j, Edge1 ops j i → j < i
  one : ∀ (i : Nat) (o : Oper) (d : Tmp), ops[i]? = some o → o.dst = some d → ∀ (j : Nat) (p : Oper), ops[j]? = some p → p.dst = some d → i = j
  looks : ∀ (i : Nat) (o : Oper), ops[i]? = some o → ∀ t ∈ looksV ops o, ∀ j, writerOf ops.toList t 0 = some j → j = i ∨ befB (Region.before ops) j i = true ∨ befB (Region.before ops) i j = true
  total : ∀ (i : Nat) (o : Oper), ops[i]? = some o → kindOf P o.op = 2 → ∀ (j : Nat) (p : Oper), ops[j]? = some p → kindOf P p.op = 2 → i = j ∨ befB (Region.before ops) j i = true ∨ befB (Region.before ops) i j = true

theorem drawOk_spec (h : drawOk P ops = true) : DrawOk P ops := by
  unfold drawOk at h
  simp only [List.all_eq_true] at h
  have key : ∀ i o, ops[i]? = some o → (o, i) ∈ ops.toList.zipIdx := fun i o ho => by
    rw [List.mk_mem_zipIdx_iff_getElem?]
    simpa using ho
  refine ⟨?_, ?_, ?_, ?_⟩
  · rintro i j ⟨o, ho, e, he, hb, rfl⟩
    have h1 := h (o, i) (key i o ho)
    simp only [Bool.and_eq_true] at h1
    have h2 := Array.all_eq_true'.1 h1.1.1.1.1 e he
    simpa [hb, Nat.blt_eq] using h2
  · intro i o d ho hd j p hp hpd
    have h1 := h (o, i) (key i o ho)
    simp only [Bool.and_eq_true, hd] at h1
    have h2 := List.all_eq_true.1 h1.1.1.1.2 (p, j) (key j p hp)
    simp only [hpd, bne_self_eq_false, Bool.or_false, beq_iff_eq] at h2
    exact h2
  · intro i o ho t ht j hj
    have h1 := h (o, i) (key i o ho)
    simp only [Bool.and_eq_true] at h1
    have h2 := List.all_eq_true.1 h1.1.1.2 t ht
    simp only [hj, Bool.or_eq_true, beq_iff_eq] at h2
    rcases h2 with (h2 | h2) | h2
    · exact .inl h2
    · exact .inr (.inl h2)
    · exact .inr (.inr h2)
  · intro i o ho hk j p hp hkp
    have h1 := h (o, i) (key i o ho)
    simp only [Bool.and_eq_true] at h1
    have h2 := h1.1.2
    simp only [hk, bne_self_eq_false, Bool.false_or] at h2
    have h3 := List.all_eq_true.1 h2 (p, j) (key j p hp)
    simp only [hkp, bne_self_eq_false, Bool.or_false, Bool.or_eq_true, beq_iff_eq] at h3
    rcases h3 with (h3 | h3) | h3
    · exact .inl h3
    · exact .inr (.inl h3)
    · exact .inr (.inr h3)

/-- one more of the bits -/
def befStep (acc : Array Nat) (o : Oper) : Nat := o.after.foldl (fun s e => if Region.binds .any e then s ||| 2 ^ e.on ||| acc.getD e.on 0 else s) 0

theorem befStep_bit {f : Nat → Nat} {j : Nat} : ∀ (l : List Edge) (s : Nat), (l.foldl (fun s e => if Region.binds .any e then s ||| 2 ^ e.on ||| f e.on else s) s).testBit j = true →
    s.testBit j = true ∨ ∃ e ∈ l, Region.binds .any e = true ∧ (j = e.on ∨ (f e.on).testBit j = true)
  | [], s, h => .inl h
  | e :: l, s, h => by
    rw [List.foldl_cons] at h
    rcases befStep_bit l _ h with h1 | ⟨e', h1, h2⟩
    · by_cases hb : Region.binds .any e = true
      · rw [if_pos hb] at h1
        simp only [Nat.testBit_or, Bool.or_eq_true, Nat.testBit_two_pow, decide_eq_true_eq] at h1
        rcases h1 with (h1 | h1) | h1
        · exact .inl h1
        · exact .inr ⟨e, by simp, hb, .inl h1.symm⟩
        · exact .inr ⟨e, by simp, hb, .inr h1⟩
      · rw [if_neg hb] at h1
        exact .inl h1
    · exact .inr ⟨e', by simp [h1], h2⟩

theorem before_list : ∀ (l : List Oper) (acc : Array Nat), 
    (l.foldl (fun acc o => acc.push (befStep acc o)) acc).size = acc.size + l.length ∧
    (∀ i, i < acc.size → (l.foldl (fun acc o => acc.push (befStep acc o)) acc).getD i 0 = acc.getD i 0) ∧
    (∀ k o, l[k]? = some o → ∃ acc' : Array Nat, acc'.size = acc.size + k ∧ (∀ i, i < acc.size + k → acc'.getD i 0 = (l.foldl (fun acc o => acc.push (befStep acc o)) acc).getD i 0) ∧
      (l.foldl (fun acc o => acc.push (befStep acc o)) acc).getD (acc.size + k) 0 = befStep acc' o)
  | [], acc => ⟨rfl, fun _ _ => rfl, by simp⟩
  | o :: l, acc => by
    obtain ⟨h1, h2, h3⟩ := before_list l (acc.push (befStep acc o))
    simp only [List.foldl_cons]
    have hp : ∀ i, i < acc.size → (acc.push (befStep acc o)).getD i 0 = acc.getD i 0 := fun i hi => by
      simp only [Array.getD_eq_getD_getElem?, Array.getElem?_push]
      rw [if_neg (by omega)]
    refine ⟨by rw [h1]; simp; omega, fun i hi => by rw [h2 i (by simp; omega), hp i hi], ?_⟩
    intro k o' hk
    cases k with
    | zero =>
      simp only [List.getElem?_cons_zero, Option.some.injEq] at hk
      subst hk
      refine ⟨acc, rfl, fun i hi => ?_, ?_⟩
      · rw [h2 i (by simp; omega), hp i (by omega)]
      · rw [Nat.add_zero, h2 _ (by simp)]
        simp [Array.getD_eq_getD_getElem?]
    | succ k =>
      obtain ⟨acc', q1, q2, q3⟩ := h3 k o' (by simpa using hk)
      simp only [Array.size_push] at q1 q2 q3
      refine ⟨acc', by omega, fun i hi => q2 i (by omega), ?_⟩
      rw [show acc.size + (k + 1) = acc.size + 1 + k by omega]
      exact q3

theorem before_eq (ops : Array Oper) : Region.before ops = ops.toList.foldl (fun acc o => acc.push (befStep acc o)) #[] := by
  unfold Region.before befStep
  rw [Array.foldl_toList]

theorem bef_lt (j i : Nat) (h : befB (Region.before ops) j i = true) : i < ops.size := by
  unfold befB at h
  obtain ⟨h1, -, -⟩ := before_list ops.toList #[]
  rw [← before_eq] at h1
  simp at h1
  by_cases hi : i < ops.size
  · exact hi
  · have : (Region.before ops).getD i 0 = 0 := by
      rw [Array.getD_eq_getD_getElem?, Array.getElem?_eq_none (by omega)]
      rfl
    rw [this] at h
    simp at h

theorem bef_edge (hb : ∀ i j, Edge1 ops j i → j < i) {j i : Nat} (h : befB (Region.before ops) j i = true) : ∃ k, Edge1 ops k i ∧ (j = k ∨ befB (Region.before ops) j k = true) := by
  have hi := bef_lt j i h
  obtain ⟨-, -, h3⟩ := before_list ops.toList #[]
  obtain ⟨acc', q1, q2, q3⟩ := h3 i ops[i] (by simp [hi])
  rw [← before_eq] at q2 q3
  simp only [List.size_toArray, List.length_nil, Nat.zero_add] at q1 q2 q3
  unfold befB at h
  rw [q3] at h
  unfold befStep at h
  rw [← Array.foldl_toList] at h
  rcases befStep_bit (f := fun k => acc'.getD k 0) _ _ h with h | ⟨e, he, hbd, h⟩
  · simp at h
  · have hed : Edge1 ops e.on i := ⟨ops[i], by simp [hi], e, by simpa using he, hbd, rfl⟩
    refine ⟨e.on, hed, h.imp id fun h => ?_⟩
    unfold befB
    rw [← q2 _ (hb _ _ hed)]
    exact h

theorem bef_back (hb : ∀ i j, Edge1 ops j i → j < i) : ∀ (i j : Nat), befB (Region.before ops) j i = true → j < i := by
  intro i
  induction i using Nat.strongRecOn with
  | ind i ih =>
    intro j h
    obtain ⟨k, hk, h⟩ := bef_edge hb h
    have := hb _ _ hk
    rcases h with rfl | h
    · exact this
    · exact Nat.lt_trans (ih k this j h) this

/-- an order that the edges allow -/
structure Topo (ops : Array Oper) (l : List Nat) : Prop where
  nodup : l.Nodup
  all : ∀ i, i ∈ l ↔ i < ops.size
  bef : ∀ E i R, l = E ++ i :: R → ∀ j, befB (Region.before ops) j i = true → j ∈ E

theorem linearise_go (hb : ∀ i j, Edge1 ops j i → j < i) : ∀ (fuel t : Nat) (listed : Array Bool), listed.size = ops.size → ((List.range ops.size).filter fun i => !listed.getD i true).length ≤ fuel →
    ∃ l, Region.linearise.go .any ops fuel t listed [] = l ∧ l.Nodup ∧ (∀ i, i ∈ l ↔ (i < ops.size ∧ listed.getD i true = false)) ∧
      ∀ E i R, l = E ++ i :: R → ∀ k, Edge1 ops k i → listed.getD k false = true ∨ k ∈ E := by
  intro fuel
  induction fuel with
  | zero =>
    intro t listed hsz hf
    refine ⟨[], rfl, .nil, ?_, by simp⟩
    intro i
    have h0 : ((List.range ops.size).filter fun i => !listed.getD i true) = [] := List.eq_nil_of_length_eq_zero (by omega)
    rw [List.filter_eq_nil_iff] at h0
    constructor
    · intro h; cases h
    · rintro ⟨h1, h2⟩
      exact absurd (by simp only [h2]; rfl) (h0 i (List.mem_range.2 h1))
  | succ fuel ih =>
    intro t listed hsz hf
    have hgo : Region.linearise.go .any ops (fuel + 1) t listed [] = match (Region.ready .any ops listed)[t % (Region.ready .any ops listed).length]? with
      | some i => Region.linearise.go .any ops fuel (t / (Region.ready .any ops listed).length) (listed.setIfInBounds i true) [i]
      | none => [] := rfl
    rw [hgo]
    have hsame : ∀ k, k < ops.size → listed.getD k true = listed.getD k false := fun k hk => by
      simp only [Array.getD_eq_getD_getElem?, Array.getElem?_eq_getElem (show k < listed.size by omega), Option.getD_some]
    cases hi : (Region.ready .any ops listed)[t % (Region.ready .any ops listed).length]? with
    | none =>
      have hnil : Region.ready .any ops listed = [] := by
        cases hr : Region.ready .any ops listed with
        | nil => rfl
        | cons x xs =>
          rw [hr] at hi
          have hlt : t % (x :: xs).length < (x :: xs).length := Nat.mod_lt _ (by simp)
          rw [List.getElem?_eq_getElem hlt] at hi
          cases hi
      have hall : ∀ i, i < ops.size → listed.getD i true = true := by
        intro i
        induction i using Nat.strongRecOn with
        | ind i ih2 =>
          intro hlt
          cases hq : listed.getD i true with
          | true => rfl
          | false =>
            have : i ∈ Region.ready .any ops listed := by
              unfold Region.ready
              refine List.mem_filter.2 ⟨List.mem_range.2 hlt, ?_⟩
              rw [Array.getElem?_eq_getElem hlt]
              simp only [hq, Option.map_some, Option.getD_some, Bool.not_false, Bool.true_and]
              rw [Array.all_eq_true']
              intro e he
              cases hbd : Region.binds .any e with
              | false => rfl
              | true =>
                have h1 := hb i e.on ⟨ops[i], by simp [hlt], e, he, hbd, rfl⟩
                have h2 := ih2 e.on h1 (by omega)
                rw [hsame _ (by omega)] at h2
                simp [h2]
            rw [hnil] at this
            cases this
      refine ⟨[], rfl, .nil, fun i => ⟨fun h => absurd h (by simp), ?_⟩, by simp⟩
      rintro ⟨h1, h2⟩
      rw [hall i h1] at h2
      cases h2
    | some i =>
      simp only
      have hmem := List.mem_of_getElem? hi
      unfold Region.ready at hmem
      rw [List.mem_filter, List.mem_range] at hmem
      obtain ⟨hlt, hrd⟩ := hmem
      rw [Array.getElem?_eq_getElem hlt] at hrd
      simp only [Option.map_some, Option.getD_some, Bool.and_eq_true, Bool.not_eq_true'] at hrd
      obtain ⟨hun, hedges⟩ := hrd
      rw [linearise_go_acc, List.reverse_singleton, List.singleton_append]
      have hset : ∀ k d, (listed.setIfInBounds i true).getD k d = if k = i then true else listed.getD k d := fun k d => by
        simp only [Array.getD_eq_getD_getElem?, getElem?_setIfInBounds]
        by_cases e : k = i
        · subst e; simp [hsz, hlt]
        · rw [if_neg (by rintro ⟨rfl, _⟩; exact e rfl), if_neg e]
      have hcount : ((List.range ops.size).filter fun k => !(listed.setIfInBounds i true).getD k true).length ≤ fuel := by
        have hsub : ((List.range ops.size).filter fun k => !(listed.setIfInBounds i true).getD k true) = ((List.range ops.size).filter fun k => !listed.getD k true).filter (· != i) := by
          rw [List.filter_filter]
          refine List.filter_congr fun k _ => ?_
          rw [hset]
          by_cases e : k = i
          · simp [e]
          · simp [e]
        rw [hsub]
        have hin : i ∈ (List.range ops.size).filter fun k => !listed.getD k true := List.mem_filter.2 ⟨List.mem_range.2 hlt, by rw [hun]; rfl⟩
        have := List.length_filter_lt_length_iff_exists (p := (· != i)) |>.2 ⟨i, hin, by simp⟩
        omega
      obtain ⟨l, q1, q2, q3, q4⟩ := ih (t / (Region.ready .any ops listed).length) (listed.setIfInBounds i true) (by simpa using hsz) hcount
      refine ⟨i :: l, by rw [q1], ?_, ?_, ?_⟩
      · refine List.nodup_cons.2 ⟨fun h => ?_, q2⟩
        have := ((q3 i).1 h).2
        rw [hset] at this
        simp at this
      · intro k
        rw [List.mem_cons, q3, hset]
        by_cases e : k = i
        · subst e; simp [hlt, hun]
        · simp [e]
      · intro E i' R hl k hk
        cases E with
        | nil =>
          simp only [List.nil_append, List.cons.injEq] at hl
          obtain ⟨rfl, rfl⟩ := hl
          obtain ⟨o, ho, e, he, hbd, rfl⟩ := hk
          rw [Array.getElem?_eq_getElem hlt] at ho
          cases ho
          have := Array.all_eq_true'.1 hedges e he
          simp only [hbd, Bool.not_true, Bool.false_or] at this
          exact .inl this
        | cons x E =>
          simp only [List.cons_append, List.cons.injEq] at hl
          obtain ⟨rfl, hl⟩ := hl
          rcases q4 E i' R hl k hk with h | h
          · rw [hset] at h
            by_cases e : k = i
            · exact .inr (by simp [e])
            · rw [if_neg e] at h; exact .inl h
          · exact .inr (by simp [h])

theorem linearise_topo (hb : ∀ i j, Edge1 ops j i → j < i) (t : Nat) : Topo ops (Region.linearise .any ops t) := by
  obtain ⟨l, h1, h2, h3, h4⟩ := linearise_go hb ops.size t (Array.replicate ops.size false) (by simp) (by
    refine Nat.le_trans (List.length_filter_le _ _) (by simp))
  have hl : Region.linearise .any ops t = l := h1
  rw [hl]
  have hfalse : ∀ k, (Array.replicate ops.size false).getD k false = false := fun k => by
    rw [Array.getD_eq_getD_getElem?, Array.getElem?_replicate]
    split <;> rfl
  refine ⟨h2, ?_, ?_⟩
  · intro i
    rw [h3]
    refine ⟨And.left, fun h => ⟨h, ?_⟩⟩
    rw [Array.getD_eq_getD_getElem?, Array.getElem?_replicate, if_pos h]
    rfl
  · have edge : ∀ E i R, l = E ++ i :: R → ∀ k, Edge1 ops k i → k ∈ E := fun E i R he k hk => by
      rcases h4 E i R he k hk with h | h
      · rw [hfalse] at h; cases h
      · exact h
    intro E i
    induction i using Nat.strongRecOn generalizing E with
    | ind i ih =>
      intro R he j hj
      obtain ⟨k, hk, hj⟩ := bef_edge hb hj
      have hkE := edge E i R he k hk
      rcases hj with rfl | hj
      · exact hkE
      · obtain ⟨E1, E2, rfl⟩ := List.append_of_mem hkE
        have := ih k (hb _ _ hk) E1 (E2 ++ i :: R) (by rw [he]; simp) j hj
        simp [this]

theorem canonGo_acc (P : Program) (ops : Array Oper) (b : Array Nat) : ∀ (n : Nat) (todo acc : List Nat), canonGo P ops b n todo acc = acc.reverse ++ canonGo P ops b n todo []
  | 0, _, _ => by simp [canonGo]
  | n + 1, todo, acc => by
    simp only [canonGo]
    split
    · rename_i i _
      rw [canonGo_acc P ops b n _ (i :: acc), canonGo_acc P ops b n _ [i]]
      simp
    · cases todo with
      | nil => simp
      | cons i rest =>
        simp only
        rw [canonGo_acc P ops b n _ (i :: acc), canonGo_acc P ops b n _ [i]]
        simp

theorem canonGo_spec (hb : ∀ i j, Edge1 ops j i → j < i) : ∀ (n : Nat) (todo : List Nat), todo.Pairwise (· < ·) → todo.length ≤ n →
    ∃ c, canonGo P ops (Region.before ops) n todo [] = c ∧ c.Nodup ∧ (∀ i, i ∈ c ↔ i ∈ todo) ∧ c.Pairwise fun i j => ¬ befB (Region.before ops) j i = true := by
  intro n
  induction n with
  | zero =>
    intro todo _ hl
    have : todo = [] := List.eq_nil_of_length_eq_zero (by omega)
    subst this
    exact ⟨[], rfl, .nil, by simp, .nil⟩
  | succ n ih =>
    intro todo hp hl
    simp only [canonGo]
    split
    · rename_i i hi
      have hmem := List.mem_of_find?_eq_some hi
      have hpr := List.find?_some hi
      simp only [Bool.and_eq_true] at hpr
      have hlast := List.all_eq_true.1 hpr.2
      obtain ⟨c, q1, q2, q3, q4⟩ := ih (todo.filter (· != i)) (hp.filter _) (by
        have := List.length_filter_lt_length_iff_exists (p := (· != i)) |>.2 ⟨i, hmem, by simp⟩
        omega)
      rw [canonGo_acc, q1]
      refine ⟨i :: c, by simp, List.nodup_cons.2 ⟨fun h => ?_, q2⟩, ?_, List.pairwise_cons.2 ⟨fun j hj => ?_, q4⟩⟩
      · have := (q3 i).1 h
        simp at this
      · intro k
        rw [List.mem_cons, q3, List.mem_filter]
        by_cases e : k = i
        · subst e; simp [hmem]
        · simp [e]
      · have := hlast j (List.mem_filter.1 ((q3 j).1 hj)).1
        simpa using this
    · cases todo with
      | nil => exact ⟨[], rfl, .nil, by simp, .nil⟩
      | cons i rest =>
        simp only
        rw [List.pairwise_cons] at hp
        obtain ⟨c, q1, q2, q3, q4⟩ := ih rest hp.2 (by simp at hl; omega)
        rw [canonGo_acc, q1]
        refine ⟨i :: c, by simp, List.nodup_cons.2 ⟨fun h => ?_, q2⟩, ?_, List.pairwise_cons.2 ⟨fun j hj h => ?_, q4⟩⟩
        · exact Nat.lt_irrefl _ (hp.1 _ ((q3 i).1 h))
        · intro k; rw [List.mem_cons, List.mem_cons, q3]
        · exact Nat.lt_irrefl _ (Nat.lt_trans (hp.1 j ((q3 j).1 hj)) (bef_back hb i j h))

theorem canonV_spec (hb : ∀ i j, Edge1 ops j i → j < i) : (canonV P ops).Nodup ∧ (∀ i, i ∈ canonV P ops ↔ i < ops.size) ∧ (canonV P ops).Pairwise fun i j => ¬ befB (Region.before ops) j i = true := by
  obtain ⟨c, q1, q2, q3, q4⟩ := canonGo_spec (P := P) hb ops.size (List.range ops.size) List.pairwise_lt_range (by simp)
  have : canonV P ops = c := q1
  rw [this]
  exact ⟨q2, fun i => by rw [q3, List.mem_range], q4⟩

theorem writerOf_go {t : Tmp} : ∀ (l : List Oper) (i : Nat), (∀ j, writerOf.go l t i = some j → i ≤ j ∧ ∃ o, l[j - i]? = some o ∧ o.dst = some t) ∧ (writerOf.go l t i = none → ∀ o ∈ l, o.dst ≠ some t)
  | [], i => by simp [writerOf.go]
  | o :: l, i => by
    obtain ⟨h1, h2⟩ := writerOf_go (t := t) l (i + 1)
    have hrec : (∀ j, writerOf.go l t (i + 1) = some j → i ≤ j ∧ ∃ o', (o :: l)[j - i]? = some o' ∧ o'.dst = some t) := fun j hj => by
      obtain ⟨q1, o', q2, q3⟩ := h1 j hj
      refine ⟨by omega, o', ?_, q3⟩
      rw [show j - i = (j - (i + 1)) + 1 by omega]
      simpa using q2
    simp only [writerOf.go]
    cases hd : o.dst with
    | none => exact ⟨hrec, fun h o' ho' => by
        rcases List.mem_cons.1 ho' with rfl | ho'
        · simp [hd]
        · exact h2 h o' ho'⟩
    | some d =>
      simp only
      cases hb : Nat.beq d t with
      | true =>
        have : d = t := Nat.eq_of_beq_eq_true hb
        subst this
        exact ⟨fun j hj => by simp only [Option.some.injEq] at hj; subst hj; exact ⟨Nat.le_refl _, o, by simp, hd⟩, fun h => by simp at h⟩
      | false => exact ⟨hrec, fun h o' ho' => by
          rcases List.mem_cons.1 ho' with rfl | ho'
          · rw [hd]
            rintro e
            simp only [Option.some.injEq] at e
            subst e
            simp at hb
          · exact h2 h o' ho'⟩

theorem writerOf_some {t : Tmp} {j : Nat} (h : writerOf ops.toList t 0 = some j) : ∃ o, ops[j]? = some o ∧ o.dst = some t := by
  obtain ⟨_, o, h1, h2⟩ := (writerOf_go ops.toList 0).1 j h
  exact ⟨o, by simpa using h1, h2⟩

theorem writerOf_none {t : Tmp} (h : writerOf ops.toList t 0 = none) (j : Nat) (o : Oper) (ho : ops[j]? = some o) : o.dst ≠ some t :=
  (writerOf_go ops.toList 0).2 h o (by rw [Array.mem_toList_iff]; exact Array.mem_of_getElem? ho)

end Go.Vm
