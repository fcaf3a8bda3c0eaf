/-
  A virtual semantics of the model's code (21): 'simpleV' is sound.
-/
import Derived.Test.YtgdpedfahfmjeaaGreatDoorVmT
namespace Go.Vm
variable {P : Program} {G : Nat} {ρ : Ren} {S : St} {w : World}

/-- an operation that leaves the state as it is -/
theorem op_quiet (hS : Sim G ρ S w) {a : Act} {o : Oper} {v : VV} {v' : Value} (hr : (execOp a.eval o).run P w = .ok (.value v') w) (hv : VRel ρ v v') :
    ∃ ρ' w', OpIs P ρ a o w v ρ' w' ∧ Goes G ρ S w ρ' S w' ∧ (kindOf P o.op ≠ 2 → S = S ∧ w' = w ∧ ρ' = ρ ∧ ∃ v', (execOp a.eval o).run P w = .ok (.value v') w ∧ VRel ρ v v') :=
  ⟨ρ, w, ⟨v', .inl hr, hv⟩, .refl hS, fun _ => ⟨rfl, rfl, rfl, v', hr, hv⟩⟩

theorem optV_some {x : Option VV} {v : VV} {S' : St} (h : optV x S = some (v, S')) : x = some v ∧ S' = S := by
  cases x with
  | none => simp [optV] at h
  | some u => simp only [optV, Option.some.injEq, Prod.mk.injEq] at h; exact ⟨by rw [h.1], h.2.symm⟩

theorem nilCheck_run {x v : VV} {x' : Value} (h : nilCheckV x = some v) (hx : VRel ρ x x') {a : Act} {o : Oper} {y : Operand} (ho : o.op = .nilCheck y) (hy : a.eval y = x') (w : World) : (execOp a.eval o).run P w = .ok (.value x') w ∧ VRel ρ v x' := by
  cases hx <;> try (simp only [nilCheckV, reduceCtorEq] at h; done)
  case ptr id r b n off hρ =>
    simp only [nilCheckV, Option.some.injEq] at h
    subst h
    exact ⟨by simp [execOp, ho, hy], .ptr hρ⟩
  case func fn fn' f c f' c' hf h1 h2 =>
    cases hf <;> simp only [nilCheckV, Option.some.injEq, reduceCtorEq] at h
    · subst h; exact ⟨by simp [execOp, ho, hy], .func (.func _) h1 h2⟩
    · rename_i hl
      subst h; exact ⟨by simp [execOp, ho, hy], .func (.yield hl) h1 h2⟩
  case iface t v0 v0' hv =>
    simp only [nilCheckV, Option.some.injEq] at h
    subst h
    exact ⟨by simp [execOp, ho, hy], .iface _ hv⟩

set_option maxHeartbeats 4000000 in
theorem simpleV_sound (hS : Sim G ρ S w) {e : Operand → VV} {a : Act} {o : Oper} {v : VV} {S' : St} (he : ∀ x, VRel ρ (e x) (a.eval x)) (h : simpleV P e S o.op = some (v, S')) :
    ∃ ρ' w', OpIs P ρ a o w v ρ' w' ∧ Goes G ρ S w ρ' S' w' ∧ (kindOf P o.op ≠ 2 → S' = S ∧ w' = w ∧ ρ' = ρ ∧ ∃ v', (execOp a.eval o).run P w = .ok (.value v') w ∧ VRel ρ v v') := by
  cases ho : o.op <;> simp only [simpleV, ho, reduceCtorEq] at h
  case move x =>
    simp only [Option.some.injEq, Prod.mk.injEq] at h
    obtain ⟨rfl, rfl⟩ := h
    exact ho ▸ op_quiet hS (by simp [execOp, ho]) (he x)
  case assign x =>
    simp only [Option.some.injEq, Prod.mk.injEq] at h
    obtain ⟨rfl, rfl⟩ := h
    exact ho ▸ op_quiet hS (by simp [execOp, ho]) (he x)
  case pick c x y =>
    have hc := he c
    split at h
    · rename_i hcc
      rw [hcc] at hc
      simp only [Option.some.injEq, Prod.mk.injEq] at h
      obtain ⟨rfl, rfl⟩ := h
      cases hq : a.eval c <;> rw [hq] at hc <;> cases hc
      exact ho ▸ op_quiet hS (by simp [execOp, ho, hq, asBool]) (he x)
    · rename_i hcc
      rw [hcc] at hc
      simp only [Option.some.injEq, Prod.mk.injEq] at h
      obtain ⟨rfl, rfl⟩ := h
      cases hq : a.eval c <;> rw [hq] at hc <;> cases hc
      exact ho ▸ op_quiet hS (by simp [execOp, ho, hq, asBool]) (he y)
    · cases h
  case alloc t =>
    obtain ⟨ρ', u', w', e1, e2, e3⟩ := r_alloc (P := P) hS h
    exact ⟨ρ', w', ⟨u', .inl (by simp only [execOp, ho, Sem.run_bind, e1, Result.andThen_ok, Sem.run_pure]), e2⟩, e3, fun q => absurd rfl q⟩
  case box t x =>
    obtain ⟨ρ', u', w', e1, e2, e3⟩ := r_box (P := P) hS h (he x)
    exact ⟨ρ', w', ⟨u', .inl (by simp only [execOp, ho, Instr.box, Sem.run_bind]; simp only [Sem.run_bind] at e1; rw [e1]; rfl), e2⟩, e3, fun q => absurd rfl q⟩
  case build t ps =>
    obtain ⟨h1, rfl⟩ := optV_some h
    obtain ⟨v', e1, e2⟩ := r_build (P := P) (parts' := ps.map fun (i, x) => (i, a.eval x)) h1 (by rw [Array.toList_map]; exact PRels.map he _) w
    exact ho ▸ op_quiet hS (by simp only [execOp, ho, Sem.run_bind, e1, Result.andThen_ok, Sem.run_pure]) e2
  case buildSlice t n ps =>
    obtain ⟨ρ', u', w', e1, e2, e3⟩ := r_buildSlice (P := P) hS (parts' := ps.map fun (i, x) => (i, a.eval x)) h (by rw [Array.toList_map]; exact PRels.map he _)
    exact ⟨ρ', w', ⟨u', .inl (by simp only [execOp, ho, Sem.run_bind, e1, Result.andThen_ok, Sem.run_pure]), e2⟩, e3, fun q => absurd rfl q⟩
  case insert t m k x =>
    obtain ⟨rfl, w', e1, e2⟩ := r_mapSet (P := P) hS h (he m) (he k) (he x)
    exact ⟨ρ, w', ⟨undef, .inr ⟨by simp only [execOp, ho, Sem.run_bind, e1, Result.andThen_ok, Sem.run_pure], rfl⟩, undef_rel ρ⟩, e2, fun q => absurd rfl q⟩
  case load t x =>
    split at h
    · rename_i id off hx
      obtain ⟨h1, rfl⟩ := optV_some h
      have hxx := he x
      rw [hx] at hxx
      obtain ⟨r, b, n, q1, v', q2, q3⟩ := r_loadVar (P := P) hS h1
      cases hq : a.eval x <;> rw [hq] at hxx <;> cases hxx
      rename_i r1 b1 n1 hρ
      rw [hρ] at q1
      cases q1
      exact ho ▸ op_quiet hS (by simp only [execOp, ho, hq, Instr.loadAt, Instr.sureAddr, Sem.run_bind, Sem.run_pure, Result.andThen_ok, q3]) q2
    · cases h
  case store t x y =>
    obtain ⟨rfl, w', e1, e2⟩ := r_storeVar (P := P) hS h (he x) (he y)
    exact ⟨ρ, w', ⟨undef, .inr ⟨by simp only [execOp, ho, Sem.run_bind, e1, Result.andThen_ok, Sem.run_pure], rfl⟩, undef_rel ρ⟩, e2, fun q => absurd rfl q⟩
  case nilCheck x =>
    obtain ⟨h1, rfl⟩ := optV_some h
    obtain ⟨e1, e2⟩ := nilCheck_run (P := P) h1 (he x) ho rfl w
    exact ho ▸ op_quiet hS e1 e2
  case binOp op t x y t2 =>
    obtain ⟨h1, rfl⟩ := optV_some h
    obtain ⟨v', e1, e2⟩ := r_bin (P := P) hS h1 (he x) (he y)
    exact ho ▸ op_quiet hS (by simp only [execOp, ho]; simp only [Sem.run_bind] at e1 ⊢; rw [e1]; rfl) e2
  case unOp op t x =>
    obtain ⟨h1, rfl⟩ := optV_some h
    obtain ⟨v', e1, e2⟩ := r_un (P := P) h1 (he x) w
    exact ho ▸ op_quiet hS (by simp only [execOp, ho, Sem.run_bind, e1, Result.andThen_ok, Sem.run_pure]) e2
  case convert src dst x =>
    by_cases hd : ∃ e, P.underlying dst = some (.slice e)
    · obtain ⟨el, hd⟩ := hd
      obtain ⟨ρ', v', w', e1, e2, e3⟩ := r_convert (P := P) hS h (he x)
      exact ⟨ρ', w', ⟨v', .inl (by simp only [execOp, ho, Sem.run_bind, e1, Result.andThen_ok, Sem.run_pure]), e2⟩, e3, fun q => absurd (by simp [kindOf, hd]) q⟩
    · obtain ⟨rfl, v', e1, e2⟩ := r_convertQ (P := P) hS h (he x) (fun e q => hd ⟨e, q⟩)
      exact ho ▸ op_quiet hS (by simp only [execOp, ho, Sem.run_bind, e1, Result.andThen_ok, Sem.run_pure]) e2
  case makeInterface t x =>
    obtain ⟨h1, rfl⟩ := optV_some h
    obtain ⟨v', e1, e2⟩ := r_makeInterface (P := P) h1 (he x) w
    exact ho ▸ op_quiet hS (by simp only [execOp, ho, Sem.run_bind, e1, Result.andThen_ok, Sem.run_pure]) e2
  case makeFunc fn f c =>
    have hfn : FnRel ρ fn fn ∧ v = .func fn (f.toList.map e) (c.toList.map e) ∧ S' = S := by
      cases fn <;> simp only [reduceCtorEq, Option.some.injEq, Prod.mk.injEq] at h <;> obtain ⟨rfl, rfl⟩ := h
      · exact ⟨.func _, rfl, rfl⟩
      · exact ⟨.method _, rfl, rfl⟩
      · exact ⟨.methodOf _ _, rfl, rfl⟩
      · exact ⟨.via _ _ _ _, rfl, rfl⟩
    obtain ⟨hf, rfl, rfl⟩ := hfn
    refine ho ▸ op_quiet hS (v' := .func fn (f.map a.eval) (c.map a.eval)) (by simp only [execOp, ho, Instr.makeFunc, Sem.run_bind, Sem.run_pure, Result.andThen_ok]) (.func hf ?_ ?_)
    · rw [Array.toList_map]; exact VRels.map _ fun x _ => he x
    · rw [Array.toList_map]; exact VRels.map _ fun x _ => he x
  case makeMap t r =>
    obtain ⟨ρ', u', w', e1, e2, e3⟩ := r_makeMap (P := P) hS h (OptRel.map he r)
    exact ⟨ρ', w', ⟨u', .inl (by simp only [execOp, ho, Sem.run_bind, e1, Result.andThen_ok, Sem.run_pure]), e2⟩, e3, fun q => absurd rfl q⟩
  case makeSlice t l c =>
    obtain ⟨ρ', u', w', e1, e2, e3⟩ := r_makeSlice (P := P) hS h (he l) (he c)
    exact ⟨ρ', w', ⟨u', .inl (by simp only [execOp, ho, Sem.run_bind, e1, Result.andThen_ok, Sem.run_pure]), e2⟩, e3, fun q => absurd rfl q⟩
  case slice t x l hh m =>
    obtain ⟨h1, rfl⟩ := optV_some h
    obtain ⟨v', e1, e2⟩ := r_slice (P := P) h1 (he x) (OptRel.map he l) (OptRel.map he hh) (OptRel.map he m) w
    exact ho ▸ op_quiet hS (by simp only [execOp, ho, Sem.run_bind, e1, Result.andThen_ok, Sem.run_pure]) e2
  case fieldAddr t x f =>
    obtain ⟨h1, rfl⟩ := optV_some h
    obtain ⟨v', e1, e2⟩ := r_fieldAddr (P := P) h1 (he x) w
    exact ho ▸ op_quiet hS (by simp only [execOp, ho, Sem.run_bind, e1, Result.andThen_ok, Sem.run_pure]) e2
  case field t x f =>
    obtain ⟨h1, rfl⟩ := optV_some h
    obtain ⟨v', e1, e2⟩ := r_field (P := P) h1 (he x) w
    exact ho ▸ op_quiet hS (by simp only [execOp, ho, Sem.run_bind, e1, Result.andThen_ok, Sem.run_pure]) e2
  case indexAddr t x i =>
    obtain ⟨h1, rfl⟩ := optV_some h
    obtain ⟨v', e1, e2⟩ := r_indexAddr (P := P) h1 (he x) (he i) w
    exact ho ▸ op_quiet hS (by simp only [execOp, ho, Sem.run_bind, e1, Result.andThen_ok, Sem.run_pure]) e2
  case index t x i =>
    obtain ⟨h1, rfl⟩ := optV_some h
    obtain ⟨v', e1, e2⟩ := r_index (P := P) h1 (he x) (he i) w
    exact ho ▸ op_quiet hS (by simp only [execOp, ho, Sem.run_bind, e1, Result.andThen_ok, Sem.run_pure]) e2
  case lookup t x i ok =>
    obtain ⟨h1, rfl⟩ := optV_some h
    obtain ⟨v', e1, e2⟩ := r_lookup (P := P) hS h1 (he x) (he i)
    exact ho ▸ op_quiet hS (by simp only [execOp, ho, Sem.run_bind, e1, Result.andThen_ok, Sem.run_pure]) e2
  case mapUpdate t m k x =>
    obtain ⟨rfl, w', e1, e2⟩ := r_mapSet (P := P) hS h (he m) (he k) (he x)
    exact ⟨ρ, w', ⟨undef, .inr ⟨by simp only [execOp, ho, Sem.run_bind, e1, Result.andThen_ok, Sem.run_pure], rfl⟩, undef_rel ρ⟩, e2, fun q => absurd rfl q⟩
  case range t x =>
    obtain ⟨ρ', u', w', e1, e2, e3⟩ := r_range (P := P) hS h (he x)
    exact ⟨ρ', w', ⟨u', .inl (by simp only [execOp, ho, Sem.run_bind, e1, Result.andThen_ok, Sem.run_pure]), e2⟩, e3, fun q => absurd rfl q⟩
  case entry x =>
    obtain ⟨h1, rfl⟩ := optV_some h
    obtain ⟨v', e1, e2⟩ := r_entry (P := P) hS h1 (he x)
    exact ho ▸ op_quiet hS (by simp only [execOp, ho, Sem.run_bind, e1, Result.andThen_ok, Sem.run_pure]) e2
  case typeAssert x xt t ok =>
    obtain ⟨h1, rfl⟩ := optV_some h
    obtain ⟨v', e1, e2⟩ := r_typeAssert (P := P) (xt := xt) h1 (he x) w
    exact ho ▸ op_quiet hS (by simp only [execOp, ho, Sem.run_bind, e1, Result.andThen_ok, Sem.run_pure]) e2
  case extract x i =>
    obtain ⟨h1, rfl⟩ := optV_some h
    obtain ⟨v', e1, e2⟩ := r_extract (P := P) h1 (he x) w
    exact ho ▸ op_quiet hS (by simp only [execOp, ho, Sem.run_bind, e1, Result.andThen_ok, Sem.run_pure]) e2
  case call c =>
    split at h
    · rename_i b hb
      exact ho ▸ simple_builtin hS ho hb he h
    · cases h

end Go.Vm
