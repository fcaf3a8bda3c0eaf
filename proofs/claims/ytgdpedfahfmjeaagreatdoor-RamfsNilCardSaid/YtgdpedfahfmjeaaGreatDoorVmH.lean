/-
  A virtual semantics of the model's code (8): integers, strings, '=='.
-/
import Derived.Test.YtgdpedfahfmjeaaGreatDoorVmG
import Derived.Laws.Strings
namespace Go.Vm
variable {P : Program} {G : Nat} {ρ : Ren} {S : St} {w : World}

theorem strEq_eq : ∀ a b : List UInt8, strEq a b = (a == b)
  | [], [] => rfl
  | [], _ :: _ => rfl
  | _ :: _, [] => rfl
  | a :: l, b :: m => by
    simp only [strEq]
    cases h : Nat.beq a.toNat b.toNat with
    | true =>
      have : a = b := UInt8.toNat_inj.1 (Nat.eq_of_beq_eq_true h)
      subst this
      simp [strEq_eq l m]
    | false =>
      have : a ≠ b := by
        rintro rfl
        rw [Nat.beq_refl] at h
        cases h
      simp [this]

theorem strLess_eq : ∀ a b : List UInt8, strLess a b = Op.bytesLess a b
  | [], [] => rfl
  | [], _ :: _ => rfl
  | _ :: _, [] => rfl
  | a :: l, b :: m => by
    simp only [strLess, Op.bytesLess]
    cases h : Nat.blt a.toNat b.toNat with
    | true =>
      have : a < b := by simpa [Nat.blt_eq, UInt8.lt_iff_toNat_lt] using h
      simp [this]
    | false =>
      have h1 : ¬ a < b := by
        intro h2
        rw [UInt8.lt_iff_toNat_lt] at h2
        have : Nat.blt a.toNat b.toNat = true := by simpa [Nat.blt_eq] using h2
        rw [h] at this; cases this
      cases h3 : Nat.beq a.toNat b.toNat with
      | true =>
        have : a = b := UInt8.toNat_inj.1 (Nat.eq_of_beq_eq_true h3)
        subst this
        simp [strLess_eq l m]
      | false =>
        have : a ≠ b := by
          rintro rfl
          rw [Nat.beq_refl] at h3
          cases h3
        simp [this, h1]

theorem r_intOp {op : BinOp} {k : IntKind} {a b : Int} {v : VV} (t : TypeId) (h : intOpV op k a b = some v) (w : World) : ∃ v', (binOp op t (.int k a) (.int k b)).run P w = .ok v' w ∧ ∀ ρ, VRel ρ v v' := by
  cases op <;> simp only [intOpV, Option.some.injEq, reduceCtorEq] at h
  case quo | rem =>
    split at h
    · cases h
    · rename_i hb
      simp only [Option.some.injEq] at h
      subst h
      refine ⟨_, ?_, fun ρ => .int _ _⟩
      simp [binOp, Op.intDiv, hb]
  all_goals
    subst h
    first
      | exact ⟨.int k _, by simp [binOp, Op.intBits, Op.intArith, Op.intCmp], fun ρ => .int _ _⟩
      | exact ⟨.bool _, by simp [binOp, Op.intBits, Op.intArith, Op.intCmp], fun ρ => .bool _⟩

theorem r_shift {op : BinOp} {k k' : IntKind} {a y : Int} {v : VV} (t : TypeId) (h : shiftV op k a y = some v) (w : World) : ∃ v', (binOp op t (.int k a) (.int k' y)).run P w = .ok v' w ∧ ∀ ρ, VRel ρ v v' := by
  unfold shiftV at h
  split at h
  · cases h
  · rename_i hy
    cases op <;> simp only [Option.some.injEq, reduceCtorEq] at h <;> subst h <;> refine ⟨_, ?_, fun ρ => .int _ _⟩ <;> simp [binOp, Op.shift, hy]

theorem r_strOp {op : BinOp} {x y : ByteArray} {v : VV} (t : TypeId) (h : strOpV op x.data.toList y.data.toList = some v) (w : World) : ∃ v', (binOp op t (.string x) (.string y)).run P w = .ok v' w ∧ ∀ ρ, VRel ρ v v' := by
  cases op <;> simp only [strOpV, strEq_eq, strLess_eq, Option.some.injEq, reduceCtorEq] at h
  case add =>
    split at h
    · rename_i hl
      simp only [Option.some.injEq] at h
      subst h
      have hl' : ¬ (((x.size + y.size : Nat) : Int) > IntKind.i64.max) := by
        have h1 : x.data.toList.length = x.size := by simp
        have h2 : y.data.toList.length = y.size := by simp
        rw [h1, h2] at hl
        simp only [IntKind.max, IntKind.signed, IntKind.bits]
        omega
      refine ⟨.string (x ++ y), ?_, fun ρ => ?_⟩
      · simp only [binOp, Op.stringOp, Sem.run_ite, if_neg hl']
        rfl
      · have := VRel.str (ρ := ρ) (x ++ y)
        simpa using this
    · cases h
  all_goals
    subst h
    refine ⟨_, rfl, fun ρ => ?_⟩
    simp only [ByteArray.toList_eq]
    exact .bool _

/- '==' -/
theorem Sim.cellsAt (hS : Sim G ρ S w) {i r b n m : Nat} {c : Tr VV} {t : TypeId} {ro mk : Bool} (h : S.h.get i = some (.cells c m t ro mk)) (hρ : ρ i = some (r, b, n)) :
    ∃ cs t' fr, w.heap[r]? = some (.cells cs t' fr) ∧ cs.size = b + n ∧ m ≤ n ∧ (mk = false → fr.1 = fr.2) := by
  obtain ⟨r', b', n', cs, t', fr, h1, h2, h3, h4, _, _, _, h8⟩ := hS.row h
  rw [hρ] at h1
  cases h1
  exact ⟨cs, t', fr, h2, h3, h4, h8⟩

theorem r_sameAddr {i j r b n r' b' n' : Nat} (o o' : Nat) (hS : Sim G ρ S w) (hi : ρ i = some (r, b, n)) (hj : ρ j = some (r', b', n')) (hne : i ≠ j) (h : apartV S i j = true) :
    (sameAddr ⟨r, b + o, none⟩ ⟨r', b' + o', none⟩).run P w = .ok false w := by
  unfold apartV at h
  split at h
  · rename_i c m t ro mk c' m' t' ro' mk' h1 h2
    obtain ⟨cs, ty, fr, g1, g2, g3, g4⟩ := hS.cellsAt h1 hi
    obtain ⟨cs', ty', fr', k1, k2, k3, k4⟩ := hS.cellsAt h2 hj
    have hrr : r ≠ r' := by
      rintro rfl
      exact hne (hS.inj i j _ _ r b n b' n' h1 h2 hi hj)
    have hb : (r == r') = false := by simp [hrr]
    have s1 : w.shape? r = some (ty, cs.size) := by simp [World.shape?, g1]
    have s2 : w.shape? r' = some (ty', cs'.size) := by simp [World.shape?, k1]
    have f1 : mk = false → ∀ off, w.frozen? ⟨r, off, none⟩ = false := by
      intro e off
      have := g4 e
      simp only [World.frozen?, g1]
      rw [Bool.and_eq_false_iff]
      rcases Nat.lt_or_ge off fr.2 with x | x
      · exact .inl (by simp; omega)
      · exact .inr (by simp; omega)
    have f2 : mk' = false → ∀ off, w.frozen? ⟨r', off, none⟩ = false := by
      intro e off
      have := k4 e
      simp only [World.frozen?, k1]
      rw [Bool.and_eq_false_iff]
      rcases Nat.lt_or_ge off fr'.2 with x | x
      · exact .inl (by simp; omega)
      · exact .inr (by simp; omega)
    have z1 : cs.size ≠ 0 := by omega
    have z2 : cs'.size ≠ 0 := by omega
    have hm : mk = false ∨ mk' = false := by
      cases mk <;> cases mk' <;> simp_all
    have y1 : (stringish ⟨r, b + o, none⟩).run P w = .ok (w.frozen? ⟨r, b + o, none⟩ || w.frozen? ⟨r, cs.size, none⟩) w := by
      simp only [stringish, Sem.run_bind, run_frozen, Result.andThen_ok]
      cases w.frozen? ⟨r, b + o, none⟩ <;> simp [s1]
    have y2 : (stringish ⟨r', b' + o', none⟩).run P w = .ok (w.frozen? ⟨r', b' + o', none⟩ || w.frozen? ⟨r', cs'.size, none⟩) w := by
      simp only [stringish, Sem.run_bind, run_frozen, Result.andThen_ok]
      cases w.frozen? ⟨r', b' + o', none⟩ <;> simp [s2]
    have n1 : (match (some (ty, cs.size) : Option (TypeId × Nat)) with | some (_, 0) => true | _ => false) = false := by
      cases hc : cs.size with
      | zero => exact absurd hc z1
      | succ q => rfl
    have n2 : (match (some (ty', cs'.size) : Option (TypeId × Nat)) with | some (_, 0) => true | _ => false) = false := by
      cases hc : cs'.size with
      | zero => exact absurd hc z2
      | succ q => rfl
    have one : (mayBeOne ⟨r, b + o, none⟩ ⟨r', b' + o', none⟩).run P w = .ok false w := by
      simp only [mayBeOne, Sem.run_bind, y1, y2, Result.andThen_ok, run_shape, s1, s2, Sem.run_pure]
      congr 1
      rcases hm with e | e
      · rw [f1 e, f1 e]
        simp
        intro _
        exact n2
      · rw [f2 e, f2 e]
        simp
        intro _
        exact n1
    have v1 : (viewAt r).run P w = .ok none w := by simp [viewAt, s1]
    have v2 : (viewAt r').run P w = .ok none w := by simp [viewAt, s2]
    have ff : (w.frozen? ⟨r, b + o, none⟩ && w.frozen? ⟨r', b' + o', none⟩) = false := by
      rcases hm with e | e
      · rw [f1 e]; rfl
      · rw [f2 e, Bool.and_false]
    simp only [sameAddr, Sem.run_bind, run_frozen, Result.andThen_ok, hb, Bool.false_eq_true, if_false, noView, v1, v2, one, ff, Sem.run_pure, Option.isSome_none]
  · cases h

end Go.Vm
