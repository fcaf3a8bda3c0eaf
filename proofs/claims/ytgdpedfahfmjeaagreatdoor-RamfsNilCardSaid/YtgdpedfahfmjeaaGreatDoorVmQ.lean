/-
  A virtual semantics of the model's code (17): append.
-/
import Derived.Test.YtgdpedfahfmjeaaGreatDoorVmP
namespace Go.Vm
variable {P : Program} {G : Nat} {ρ : Ren} {S : St} {w : World}

theorem growBy_le (n : Nat) : ∀ r c, c < n → Builtin.growBy n r c ≤ n + (n + 768) / 4 := by
  intro r
  induction r with
  | zero => intro c h; simp only [Builtin.growBy]; omega
  | succ r ih =>
    intro c h
    simp only [Builtin.growBy]
    rw [if_neg (by omega)]
    by_cases h2 : c + (c + 768) / 4 < n
    · exact ih _ h2
    · cases r with
      | zero => simp only [Builtin.growBy]; omega
      | succ r => simp only [Builtin.growBy]; rw [if_pos (by omega)]; omega

theorem nextcap_le {n c : Nat} (h : c < n) : Builtin.nextslicecap n c ≤ 2 * n + 1000 := by
  unfold Builtin.nextslicecap
  split
  · omega
  · split
    · omega
    · have := growBy_le n 4 c h
      omega

theorem zeroOk_run {e : TypeId} {size : Nat} (h : zeroOk P e size = true) : ∃ z : Value, (∀ w, (zeroValue e).run P w = .ok z w) ∧ z.cells.size = size := by
  unfold zeroOk at h
  cases hz : zeroV P e with
  | none => simp [hz] at h
  | some z =>
    obtain ⟨z', rz, ez⟩ := r_zeroValue hz
    cases hc : cellsV z with
    | none => simp [hz, hc] at h
    | some cs =>
      simp only [hz, hc, beq_iff_eq] at h
      have hr : VRels (fun _ => none) cs z'.cells.toList := cellsV_rel hc (by rw [ez]; exact ofValue_rel _ z')
      refine ⟨z', rz, ?_⟩
      have := hr.length
      simp only [Array.length_toList] at this
      omega

/-- what the model appends -/
def appendedM (zeros : Bool) (elem : TypeId) (size n : Nat) (x : Value) : Sem (Array Value) :=
  if !zeros then Builtin.firstCells size n x
  else if n * size = 0 then pure #[]
  else do pure (Builtin.zeroCells (← zeroValue elem).cells n)

/-- the model's count of what is appended comes to m -/
def CountM (P : Program) (w : World) (z : Bool) (x : Value) (bytes m : Nat) : Prop :=
  match z with
  | true => ∃ k l, x = .int k l ∧ 0 ≤ IntKind.i64.wrap l ∧ IntKind.i64.wrap l * bytes ≤ 281474976710656 ∧ m = (IntKind.i64.wrap l).toNat
  | false => (Builtin.lenOf x).run P w = .ok m w

def isIntD : TypeDesc → Bool
  | .int _ => true
  | _ => false

set_option maxHeartbeats 4000000 in
theorem append_in {t xt e : TypeId} {d : TypeDesc} {size bytes m : Nat} {z : Bool} (ty : TypeId) {base : Option Addr} {n cap : Nat} {x : Value} {new : Array Value} {w' : World} (hu : P.underlying t = some (.slice e)) (hx : P.underlying xt = some d)
    (hs : sizeV P e = some size) {i : TypeInfo} (hi : P.info? e = some i) (hb : i.bytes = bytes) (hz : isIntD d = z) (hc : CountM P w z x bytes m) (ha : (appendedM z e size m x).run P w = .ok new w) (hle : n + m ≤ cap)
    (hst : (match base with | some a => storeCells (a.add (n * size)) new.toList | none => pure ()).run P w = .ok () w') :
    (Builtin.append_ #[t, xt] ty #[.slice base n cap, x]).run P w = .ok (.slice base (n + m) cap) w' := by
  cases z with
  | false =>
    simp only [CountM] at hc
    simp only [appendedM, Bool.not_false, if_true] at ha
    have hd : ∀ k, d ≠ .int k := by rintro k rfl; simp [isIntD] at hz
    cases d <;> first | (exact absurd rfl (hd _)) | skip
    all_goals
      cases base with
      | none =>
        simp only [Sem.run_pure, Result.ok.injEq, true_and] at hst
        subst hst
        simp only [Builtin.append_, Sem.run_bind, List.getElem?_toArray, List.getElem?_cons_zero, List.getElem?_cons_succ, r_underlying hu, Result.andThen_ok, r_sizeOf hs, r_underlying hx, Sem.run_pure, hc, Bool.false_eq_true, if_false, if_pos hle, Bool.not_false, if_true, ha]
      | some a =>
        simp only at hst
        simp only [Builtin.append_, Sem.run_bind, List.getElem?_toArray, List.getElem?_cons_zero, List.getElem?_cons_succ, r_underlying hu, Result.andThen_ok, r_sizeOf hs, r_underlying hx, Sem.run_pure, hc, Bool.false_eq_true, if_false, if_pos hle, Bool.not_false, if_true, ha, hst]
  | true =>
    obtain ⟨k, l, rfl, h1, h2, rfl⟩ := hc
    cases d <;> try (simp [isIntD] at hz; done)
    simp only [appendedM, Bool.not_true, Bool.false_eq_true, if_false] at ha
    have q1 : ¬ IntKind.i64.wrap l < 0 := by omega
    have q2 : ¬ (IntKind.i64.wrap l * (i.bytes : Int) > 2 ^ 48) := by
      rw [hb]
      have : (2 ^ 48 : Int) = 281474976710656 := by decide
      omega
    cases base with
    | none =>
      simp only [Sem.run_pure, Result.ok.injEq, true_and] at hst
      subst hst
      simp only [Builtin.append_, Sem.run_bind, List.getElem?_toArray, List.getElem?_cons_zero, List.getElem?_cons_succ, r_underlying hu, Result.andThen_ok, r_sizeOf hs, r_underlying hx, Sem.run_pure, asInt, asIntOf, if_true, if_neg q1, r_typeInfo hi, if_neg q2, if_pos hle, Bool.not_true, Bool.false_eq_true, if_false]
      rw [ha]
      rfl
    | some a =>
      simp only at hst
      simp only [Builtin.append_, Sem.run_bind, List.getElem?_toArray, List.getElem?_cons_zero, List.getElem?_cons_succ, r_underlying hu, Result.andThen_ok, r_sizeOf hs, r_underlying hx, Sem.run_pure, asInt, asIntOf, if_true, if_neg q1, r_typeInfo hi, if_neg q2, if_pos hle, Bool.not_true, Bool.false_eq_true, if_false]
      rw [ha]
      simp only [Result.andThen_ok, hst]

set_option maxHeartbeats 4000000 in
theorem append_grow {t xt e : TypeId} {d : TypeDesc} {size bytes m : Nat} {z : Bool} (ty : TypeId) {base : Option Addr} {n cap : Nat} {x : Value} {old new : Array Value} (hu : P.underlying t = some (.slice e)) (hx : P.underlying xt = some d)
    (hs : sizeV P e = some size) {i : TypeInfo} (hi : P.info? e = some i) (hb : i.bytes = bytes) (hz : isIntD d = z) (hc : CountM P w z x bytes m)
    {zv : Value} (hzv : ∀ w, (zeroValue e).run P w = .ok zv w) (hgt : ¬ n + m ≤ cap) (hroom : roomV (n + m) bytes = true)
    (hold : ∀ w1 : World, w1.heap = w.heap → (Builtin.firstCells size n (.slice base n cap)).run P w1 = .ok old w1) (hnew : ∀ w1 : World, w1.heap = w.heap → (appendedM z e size m x).run P w1 = .ok new w1) :
    ∃ (nc : Nat) (w1 : World), n + m ≤ nc ∧ w1.heap = w.heap ∧ w1.output = w.output ∧ w1.os = w.os ∧
      (Builtin.append_ #[t, xt] ty #[.slice base n cap, x]).run P w = ((newRow e (old ++ new ++ Builtin.zeroCells zv.cells (nc - (n + m)))).run P w1).andThen fun a w2 => .ok (.slice (some a) (n + m) nc) w2 := by
  obtain ⟨tt, w1, hch, hh, ho, hos⟩ := r_choose (P := P) (.appendCap (n + m) cap e) w
  simp only [roomV, Bool.and_eq_true] at hroom
  have r1 := Nat.le_of_ble_eq_true hroom.1
  have r2 := Nat.le_of_ble_eq_true hroom.2
  have hmax : IntKind.i64.max = 9223372036854775807 := by decide
  have c1 : ¬ (((n + m : Nat) : Int) > IntKind.i64.max ∧ ((z = true) ∨ i.bytes = 0)) := by
    rintro ⟨q, _⟩
    rw [hmax] at q
    omega
  have c2 : ¬ (Builtin.nextslicecap (n + m) cap * i.bytes > 2 ^ 48) := by
    have q := nextcap_le (show cap < n + m by omega)
    have q2 : Builtin.nextslicecap (n + m) cap * i.bytes ≤ (2 * (n + m) + 1000) * i.bytes := Nat.mul_le_mul_right _ q
    rw [hb] at q2 ⊢
    have : (2 ^ 48 : Nat) = 281474976710656 := by decide
    omega
  refine ⟨if (Question.appendCap (n + m) cap e).forced then 0 else (Question.appendCap (n + m) cap e).cut tt, w1, ?_, hh, ho, hos, ?_⟩
  · simp [Question.forced, Question.cut]
  · cases z with
    | false =>
      simp only [CountM] at hc
      have hn := hnew w1 hh
      simp only [appendedM, Bool.not_false, if_true] at hn
      have hd : ∀ k, d ≠ .int k := by rintro k rfl; simp [isIntD] at hz
      cases d <;> first | (exact absurd rfl (hd _)) | skip
      all_goals
        simp only [Bool.false_eq_true, false_or] at c1
        simp only [Builtin.append_, Sem.run_bind, List.getElem?_toArray, List.getElem?_cons_zero, List.getElem?_cons_succ, r_underlying hu, Result.andThen_ok, r_sizeOf hs, r_underlying hx, Sem.run_pure, hc, if_neg hgt, r_typeInfo hi, Bool.false_eq_true, false_or, if_neg c1, if_neg c2, if_false, hch, run_askRoom, hold w1 hh, Bool.not_false, if_true, hn, hzv]
    | true =>
      obtain ⟨k, l, rfl, h1, h2, rfl⟩ := hc
      cases d <;> try (simp [isIntD] at hz; done)
      have hn := hnew w1 hh
      simp only [appendedM, Bool.not_true, Bool.false_eq_true, if_false] at hn
      have q1 : ¬ IntKind.i64.wrap l < 0 := by omega
      have q2 : ¬ (IntKind.i64.wrap l * (i.bytes : Int) > 2 ^ 48) := by
        rw [hb]
        have : (2 ^ 48 : Int) = 281474976710656 := by decide
        omega
      simp only [true_or, and_true] at c1
      simp only [Builtin.append_, Sem.run_bind, List.getElem?_toArray, List.getElem?_cons_zero, List.getElem?_cons_succ, r_underlying hu, Result.andThen_ok, r_sizeOf hs, r_underlying hx, Sem.run_pure, asInt, asIntOf, if_true, if_neg q1, r_typeInfo hi, if_neg q2, if_neg hgt, true_or, and_true, if_neg c1, if_neg c2, hch, run_askRoom, hold w1 hh, Bool.not_true, Bool.false_eq_true, if_false]
      rw [hn]
      simp only [Result.andThen_ok, hzv, Sem.run_bind, Sem.run_pure]

end Go.Vm
