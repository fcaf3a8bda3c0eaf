/-
  A virtual semantics of the model's code (32): a call's contract out of what the virtual semantics answers.
-/
import Derived.Test.YtgdpedfahfmjeaaGreatDoorVmBE
import Derived.Lib.Bytealg
import GoSem.ClaimChange
namespace Go.Vm
variable {P : Program} {ov : Ov} {S : St} {ρ : Ren} {w : World}

/-- how a call ended -/
def EndRel (ρ : Ren) : En → Ending → Prop
  | .returned v, .returned v' => VRel ρ v v'
  | .panicked ch, .panicked ch' => PanRels ρ ch ch'
  | _, _ => False

theorem ev_calls (hmix : P.follows .mixedOrders = true) (hn : NoCount P) (ho : OvSound P ov) {n : Nat} {f : FuncId} {args : List VV} {L : CallR} (h : (ev P ov n).call f args none S = some L) (hS : Sim P.globals.size ρ S w) {args' : Array Value} (ha : VRels ρ args args'.toList) :
    Calls P f args' w fun e w' => ∃ en rc S' ρ', (en, rc, S') ∈ L ∧ Goes P.globals.size ρ S w ρ' S' w' ∧ EndRel ρ' en e := by
  intro cs
  obtain ⟨en, rc, S', h1, ρ', w', p', fr, h2, h3, h4, h5⟩ := (ev_sound hmix hn ho n).rec_.call f args none S L h ρ w .normal (.fixed cs) none args' hS (.normal _) ha (.inl rfl)
  cases en with
  | returned v =>
    obtain ⟨m1, m2, m3, m4, fn, v', m5, m6, m7⟩ := h5
    exact ⟨.returned v', w', fr, ⟨_, rc, S', ρ', h1, h2, m7⟩, h4, m4, m1, m2, m3, fn, by rw [m4]; exact m5, m6⟩
  | panicked ch =>
    obtain ⟨m1, m2, m3, ⟨fn, m5⟩, ch', m6, m7⟩ := h5
    exact ⟨.panicked ch', w', fr, ⟨_, rc, S', ρ', h1, h2, m7⟩, h4, m3, m6, m1, fn, by rw [m3]; exact m5⟩

/-- every outcome is 'true' -/
def okTrue : Option CallR → Bool
  | some l => l.all fun x => match x.1 with
    | .returned (.bool true) => true
    | _ => false
  | none => false

theorem okTrue_spec {x : Option CallR} (h : okTrue x = true) : ∃ L, x = some L ∧ ∀ y ∈ L, y.1 = .returned (.bool true) := by
  unfold okTrue at h
  cases x with
  | none => simp at h
  | some l =>
    refine ⟨l, rfl, fun y hy => ?_⟩
    have := List.all_eq_true.1 h y hy
    obtain ⟨e, rc, S⟩ := y
    cases e with
    | panicked ch => simp at this
    | returned v =>
      cases v with
      | bool b => cases b with
        | true => rfl
        | false => simp at this
      | _ => simp at this

/-- no memory of its own -/
def bareSt (P : Program) : St := { h := .nil, nx := P.globals.size }

def bareRen (P : Program) : Ren := fun id => if id < P.globals.size then some (id, 0, 0) else none

theorem bare_sim (h : P.globals.size ≤ w.heap.size) : Sim P.globals.size (bareRen P) (bareSt P) w := by
  refine ⟨fun id o q => by simp [bareSt] at q, fun i j oi oj r b n b' n' q => by simp [bareSt] at q, fun id q => ?_, fun id r b n q => ?_, fun g q => ⟨0, by simp [bareRen, q]⟩⟩
  · simp only [bareSt] at q
    simp only [bareRen]
    rw [if_neg (by omega)]
  · simp only [bareRen] at q
    split at q
    · simp only [Option.some.injEq, Prod.mk.injEq] at q
      omega
    · cases q

/-- a closed run that is true in every outcome -/
theorem closed_true (hmix : P.follows .mixedOrders = true) (hn : NoCount P) (ho : OvSound P ov) {n : Nat} {f : FuncId} (h : okTrue ((ev P ov n).call f [] none (bareSt P)) = true) (hw : P.globals.size ≤ w.heap.size) :
    Calls P f #[] w fun e w' => e = .returned (.bool true) ∧ w.keptBut w' (fun _ => False) := by
  obtain ⟨L, hL, hall⟩ := okTrue_spec h
  refine (ev_calls hmix hn ho hL (bare_sim hw) .nil).mono fun e w' => ?_
  rintro ⟨en, rc, S', ρ', h1, h2, h3⟩
  have he : en = .returned (.bool true) := hall _ h1
  subst he
  refine ⟨?_, h2.os, h2.output, fun i hi => ?_⟩
  · cases e with
    | returned v' => cases h3; rfl
    | _ => exact h3.elim
  · have hk := h2.keep i hi (by rintro ⟨id, o, b, n, q, _⟩; simp [bareSt] at q)
    rw [hk]
    cases w.heap[i]? with
    | none => rfl
    | some o => cases o <;> simp

/-- the index of a byte -/
def idxB : List UInt8 → Nat → Nat → Int
  | [], _, _ => -1
  | x :: l, b, i => match Nat.beq x.toNat b with
    | true => (i : Int)
    | false => idxB l b (i + 1)

def ibV : List VV → St → Option (VV × St) := fun xs S => match xs with
  | [.str s, .int .u8 b] => match b with
    | .ofNat b => match Nat.blt b 256 with
      | true => some (.int .i64 (idxB s b 0), S)
      | false => none
    | _ => none
  | _ => none

theorem idxB_eq (c : UInt8) : ∀ (l : List UInt8) (i : Nat), idxB l c.toNat i = if Lib.indexByte l c = -1 then -1 else Lib.indexByte l c + i
  | [], _ => rfl
  | x :: l, i => by
    simp only [idxB, Lib.indexByte]
    cases hb : Nat.beq x.toNat c.toNat with
    | true =>
      have : x = c := UInt8.toNat_inj.1 (Nat.eq_of_beq_eq_true hb)
      subst this
      simp
    | false =>
      have hne : x ≠ c := fun e => by subst e; simp at hb
      simp only [beq_iff_eq, hne, if_false]
      rw [idxB_eq c l (i + 1)]
      have := Lib.indexByte_ge l c
      by_cases h : Lib.indexByte l c = -1
      · simp [h]
      · rw [if_neg h, if_neg h, if_neg (by omega)]
        push_cast
        omega

theorem ibV_sound {f : FuncId} {fn : Func} (hf : P.funcs[f]? = some fn) (hname : (fn.name == "runtime.NumGoroutine") = false) (hb : fn.body.isNone = true) (hnx : Extern.findNext fn = none) (he : Extern.find fn = some Extern.BytealgIndexByte.indexByte)
    {xs : List VV} {v : VV} {S' : St} (h : ibV xs S = some (v, S')) {args' : Array Value} (hS : Sim P.globals.size ρ S w) (ha : VRels ρ xs args'.toList) :
    ∃ ρ' v' w', (callFunc f args').run P w = .ok (.value v') w' ∧ VRel ρ' v v' ∧ Goes P.globals.size ρ S w ρ' S' w' := by
  unfold ibV at h
  match xs, h with
  | [.str s, .int .u8 (.negSucc b)], h => simp at h
  | [.str s, .int .u8 (.ofNat b)], h =>
    cases hb2 : Nat.blt b 256 with
    | false => simp [hb2] at h
    | true =>
      simp only [hb2, Option.some.injEq, Prod.mk.injEq] at h
      obtain ⟨rfl, rfl⟩ := h
      have hlt : b < 256 := by simpa [Nat.blt_eq] using hb2
      obtain ⟨a1, a2, hargs, h1, h2⟩ : ∃ a1 a2, args' = #[a1, a2] ∧ VRel ρ (.str s) a1 ∧ VRel ρ (.int .u8 (.ofNat b)) a2 := by
        obtain ⟨l⟩ := args'
        simp only at ha
        cases ha with
        | cons h1 t => cases t with
          | cons h2 t => cases t; exact ⟨_, _, rfl, h1, h2⟩
      subst hargs
      cases h1 with
      | str bs =>
        cases h2
        refine ⟨ρ, .int .i64 (idxB bs.data.toList b 0), w, ?_, .int _ _, .refl hS⟩
        rw [run_callFunc_extern hf hname hb hnx he, Lib.run_indexByteString]
        have hbb : (Int.ofNat b).toNat.toUInt8.toNat = b := by
          simp only [Int.ofNat_eq_natCast, Int.toNat_natCast]
          exact UInt8.toNat_ofNat_of_lt hlt
        have := idxB_eq ((Int.ofNat b).toNat.toUInt8) bs.data.toList 0
        rw [hbb] at this
        rw [this]
        simp only [Result.andThen_ok]
        split
        · rename_i q; rw [q]
        · simp

theorem noCount_of (h : (P.funcs.toList.all fun fn => fn.name != "runtime.NumGoroutine") = true) : NoCount P := fun f fn hf e => by
  have := List.all_eq_true.1 h fn (by rw [Array.mem_toList_iff]; exact Array.mem_of_getElem? hf)
  simp [e] at this

end Go.Vm
