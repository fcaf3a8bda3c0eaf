/-
  A virtual semantics of the model's code (25): pieces of code.
-/
import Derived.Test.YtgdpedfahfmjeaaGreatDoorVmX
import Derived.RangeFuncNested
import Derived.Defers
namespace Go.Vm
variable {P : Program} {G : Nat} {ρ ρ' : Ren} {S : St} {w : World}

theorem CodeIs.here {L : CodeR} {x : Ex} {fr : Fr} {b : Frame} {C : Callers} {p : Option (List PanicEntry)} {a : Act} {m : Machine} {k : List Item}
    (hm : (x, fr, S) ∈ L) (hS : Sim G ρ S w) (hrc : RcRel ρ b.kind C fr.rc p) (ha : ARel ρ fr a) (hr : Reach P m b k (C.at p) ρ x a w) : CodeIs P G L ρ S w b C m k :=
  ⟨x, fr, S, hm, ρ, w, p, a, .refl hS, hrc, ha, hr⟩

theorem CodeIs.bind {l L : CodeR} {f : Ex × Fr × St → Option CodeR} {b : Frame} {C : Callers} {m : Machine} {k1 k : List Item}
    (h : CodeIs P G l ρ S w b C m k1) (hall : ∀ y ∈ l, ∃ R, f y = some R ∧ ∀ z ∈ R, z ∈ L)
    (next : ∀ x fr' S' R ρ' w' p' a', f (x, fr', S') = some R → Goes G ρ S w ρ' S' w' → RcRel ρ' b.kind C fr'.rc p' → ARel ρ' fr' a' → Reach P m b k1 (C.at p') ρ' x a' w' → CodeIs P G R ρ' S' w' b C m k) :
    CodeIs P G L ρ S w b C m k := by
  obtain ⟨x, fr', S', h1, ρ', w', p', a', h2, h3, h4, h5⟩ := h
  obtain ⟨R, hR, hsub⟩ := hall _ h1
  exact .of_goes h2 (next x fr' S' R ρ' w' p' a' hR h2 h3 h4 h5) hsub

/-- out of a piece of code, other than by its end -/
theorem Reach.out {m : Machine} {b : Frame} {k1 k : List Item} {cs : List Frame} {x : Ex} {a : Act} (hx : x ≠ .normal) (he : ∀ id, x = .exit id → exitTo id k1 = exitTo id k) (h : Reach P m b k1 cs ρ x a w) : Reach P m b k cs ρ x a w := by
  cases x with
  | normal => exact absurd rfl hx
  | exit id => obtain ⟨k', h1, h2⟩ := h; exact ⟨k', h1.trans (he id rfl), h2⟩
  | ret => exact h
  | panic ch => exact h

theorem steps_cut {m m1 m2 : Machine} (h : Steps P m m2) (hs : step P m = .next m1) (hne : m ≠ m2) : Steps P m1 m2 := by
  obtain ⟨n, hn⟩ := h
  cases n with
  | zero => simp only [runN, Stepped.next.injEq] at hn; exact absurd hn hne
  | succ n => simp only [runN, hs] at hn; exact ⟨n, hn⟩

theorem lone_ne {fr fr' : Frame} {cs cs' : List Frame} {w w' : World} (h : fr.todo ≠ fr'.todo ∨ fr.mode ≠ fr'.mode) : lone fr cs w ≠ lone fr' cs' w' := by
  intro e
  have hf : fr = fr' := by
    have := congrArg (fun m : Machine => (m.gs[0]?).map (·.frame)) e
    simpa [lone] using this
  subst hf
  rcases h with h | h <;> exact h rfl

/-- round a loop again -/
theorem reach_loop {b : Frame} {a a' : Act} {c : Code} {k : List Item} {cs cs' : List Frame} {x : Ex} {w' : World} (h : Reach P (lone (b.atR a (.code (.loop c) :: k)) cs' w) b k cs ρ x a' w') :
    Reach P (lone (b.atR a (.inLoop c :: k)) cs' w) b k cs ρ x a' w' := by
  have hs : step P (lone (b.atR a (.code (.loop c) :: k)) cs' w) = .next (lone (b.atR a (.code c :: .inLoop c :: k)) cs' w) := stepR_loop
  have hs' : step P (lone (b.atR a (.inLoop c :: k)) cs' w) = .next (lone (b.atR a (.code c :: .inLoop c :: k)) cs' w) := stepR_inLoop
  have key : ∀ m2, Steps P (lone (b.atR a (.code (.loop c) :: k)) cs' w) m2 → lone (b.atR a (.code (.loop c) :: k)) cs' w ≠ m2 → Steps P (lone (b.atR a (.inLoop c :: k)) cs' w) m2 :=
    fun m2 q hne => .head hs' (steps_cut q hs hne)
  cases x with
  | normal => exact key _ h (lone_ne (.inl (by simp [Frame.atR])))
  | exit id => obtain ⟨k', h1, h2⟩ := h; exact ⟨k', h1, key _ h2 (lone_ne (.inl (by simp [Frame.atR])))⟩
  | ret => obtain ⟨k', h2⟩ := h; exact ⟨k', key _ h2 (lone_ne (.inl (by simp [Frame.atR])))⟩
  | panic ch => obtain ⟨k', ch', h1, h2⟩ := h; exact ⟨k', ch', h1, key _ h2 (lone_ne (.inr (by simp [Frame.atR])))⟩

theorem CodeIs.loop {L : CodeR} {b : Frame} {C : Callers} {a : Act} {c : Code} {k : List Item} {cs : List Frame} {w0 : World} (h : CodeIs P G L ρ S w b C (lone (b.atR a (.code (.loop c) :: k)) cs w0) k) :
    CodeIs P G L ρ S w b C (lone (b.atR a (.inLoop c :: k)) cs w0) k := by
  obtain ⟨x, fr', S', h1, ρ', w', p', a', h2, h3, h4, h5⟩ := h
  exact ⟨x, fr', S', h1, ρ', w', p', a', h2, h3, h4, reach_loop h5⟩

def DrawSound (P : Program) (ov : Ov) (r : Rec) : Prop :=
  ∀ fi id ops fr S L, drawV P ov r ops fr S = some L → ∀ ρ w (b : Frame) C p (a : Act) k, Sim P.globals.size ρ S w → Ctx ρ fi b → RcRel ρ b.kind C fr.rc p → ARel ρ fr a →
    CodeIs P P.globals.size L ρ S w b C (lone (b.atR a (.code (.region id ops true) :: k)) (C.at p) w) k

def RangeSound (P : Program) (ov : Ov) (r : Rec) : Prop :=
  ∀ fi f ps x y fr S L, rangeFuncV P ov r fi f ps.toList x y fr S = some L → ∀ ρ w (b : Frame) C p (a : Act) k, Sim P.globals.size ρ S w → Ctx ρ fi b → RcRel ρ b.kind C fr.rc p → ARel ρ fr a →
    CodeIs P P.globals.size L ρ S w b C (lone (b.atR a (.code (.rangeFunc f ps x y) :: k)) (C.at p) w) k

theorem codeV_sound {ov : Ov} {r : Rec} (hs : Sounds P ov r) (hd : DrawSound P ov r) (hr : RangeSound P ov r) : CodeSound P (codeV P ov r) := by
  intro fi c fr S L h ρ w b C p a k hS hx hrc ha
  have one : ∀ {x}, L = [(x, fr, S)] → Reach P (lone (b.atR a (.code c :: k)) (C.at p) w) b k (C.at p) ρ x a w → CodeIs P P.globals.size L ρ S w b C (lone (b.atR a (.code c :: k)) (C.at p) w) k := by
    rintro x rfl hq
    exact .here (List.mem_singleton.2 rfl) hS hrc ha hq
  cases c with
  | skip => simp only [codeV, Option.some.injEq] at h; exact one h.symm (Steps.one stepR_skip)
  | label l => simp only [codeV, Option.some.injEq] at h; exact one h.symm (Steps.one stepR_label)
  | region id ops draw =>
    cases draw with
    | true => simp only [codeV] at h; exact hd fi id ops fr S L h ρ w b C p a k hS hx hrc ha
    | false =>
      simp only [codeV] at h
      refine .of_steps (.one stepR_region) ?_
      have := opersV_sound hs (ops := ops) ops.toList 0 (b := b) (C := C) (k := k) h (by simp) hS hx hrc ha
      rw [List.range_eq_range']
      simpa using this
  | seq x y =>
    simp only [codeV] at h
    obtain ⟨l, hl, hall⟩ := bindL_spec h
    refine .of_steps (.one stepR_seq) ?_
    refine .bind (hs.rec_.code fi x fr S l hl ρ w b C p a (.code y :: k) hS hx hrc ha) hall ?_
    intro x1 fr1 S1 R ρ1 w1 p1 a1 hR hg hrc1 ha1 hreach
    cases x1 with
    | normal => exact .of_steps hreach (hs.rec_.code fi y fr1 S1 R hR ρ1 w1 b C p1 a1 k hg.sim (hx.mono hg.ext) hrc1 ha1)
    | _ =>
      simp only [Option.some.injEq] at hR
      subst hR
      exact .here (List.mem_singleton.2 rfl) hg.sim hrc1 ha1 (hreach.out (by simp) (by intros; rfl))
  | cond x y z =>
    simp only [codeV] at h
    have hv := ha.ev hS x
    cases he : fr.ev P.globals.size x with
    | bool t =>
      rw [he] at hv
      have hb : a.eval x = .bool t := by generalize a.eval x = q at hv; cases hv; rfl
      refine .of_steps (.one (stepR_cond hb)) ?_
      cases t with
      | true => simp only [he] at h; exact hs.rec_.code fi y fr S L h ρ w b C p a k hS hx hrc ha
      | false => simp only [he] at h; exact hs.rec_.code fi z fr S L h ρ w b C p a k hS hx hrc ha
    | _ => simp [he] at h
  | block id x =>
    simp only [codeV] at h
    obtain ⟨l, hl, hall⟩ := bindL_spec h
    refine .of_steps (.one stepR_block) ?_
    refine .bind (hs.rec_.code fi x fr S l hl ρ w b C p a (.inBlock id :: k) hS hx hrc ha) hall ?_
    intro x1 fr1 S1 R ρ1 w1 p1 a1 hR hg hrc1 ha1 hreach
    cases x1 with
    | normal =>
      simp only [Option.some.injEq] at hR
      subst hR
      exact .here (List.mem_singleton.2 rfl) hg.sim hrc1 ha1 (Steps.trans hreach (.one stepR_inBlock))
    | exit i =>
      simp only at hR
      cases hi : Nat.beq i id with
      | true =>
        simp only [hi, Option.some.injEq] at hR
        subst hR
        have hi' : i = id := Nat.eq_of_beq_eq_true hi
        subst hi'
        obtain ⟨k', h1, h2⟩ := hreach
        exact .here (List.mem_singleton.2 rfl) hg.sim hrc1 ha1 (Steps.trans h2 (.one (stepR_exit (by rw [h1]; simp [exitTo]))))
      | false =>
        simp only [hi, Option.some.injEq] at hR
        subst hR
        refine .here (List.mem_singleton.2 rfl) hg.sim hrc1 ha1 (hreach.out (by simp) ?_)
        rintro j hj
        cases hj
        have hi' : ¬ id = i := fun e => by subst e; simp at hi
        simp [exitTo, hi']
    | _ =>
      simp only [Option.some.injEq] at hR
      subst hR
      exact .here (List.mem_singleton.2 rfl) hg.sim hrc1 ha1 (hreach.out (by simp) (by simp))
  | loop x =>
    simp only [codeV] at h
    obtain ⟨l, hl, hall⟩ := bindL_spec h
    refine .of_steps (.one stepR_loop) ?_
    refine .bind (hs.rec_.code fi x fr S l hl ρ w b C p a (.inLoop x :: k) hS hx hrc ha) hall ?_
    intro x1 fr1 S1 R ρ1 w1 p1 a1 hR hg hrc1 ha1 hreach
    cases x1 with
    | normal => exact .of_steps hreach (CodeIs.loop (hs.rec_.code fi (.loop x) fr1 S1 R hR ρ1 w1 b C p1 a1 k hg.sim (hx.mono hg.ext) hrc1 ha1))
    | _ =>
      simp only [Option.some.injEq] at hR
      subst hR
      exact .here (List.mem_singleton.2 rfl) hg.sim hrc1 ha1 (hreach.out (by simp) (by intros; rfl))
  | exit id => simp only [codeV, Option.some.injEq] at h; exact one h.symm ⟨k, rfl, .refl _ _⟩
  | ret => simp only [codeV, Option.some.injEq] at h; exact one h.symm ⟨k, .refl _ _⟩
  | rangeFunc f ps x y => simp only [codeV] at h; exact hr fi f ps x y fr S L h ρ w b C p a k hS hx hrc ha
  | _ => simp [codeV] at h

end Go.Vm
