/-
  What is proved: the card of metronomelaw22.RamfsNil: the closed law returns true. Conditions: those of the card's row (the two listed tables lie as the program's text lays them).
-/
import Derived.Test.YtgdpedfahfmjeaaGreatDoorNilRun
import Derived.Test.YtgdpedfahfmjeaaGreatDoorCards
import Derived.Test.YtgdpedfahfmjeaaGreatDoorTie
import Derived.ProofKit
import Derived.OpenShut
import Derived.Deep.DeepHandedRow
import Derived.Lib.LaidTab
namespace Go.Proofs.YtgdpedfahfmjeaaGreatDoor
open Go.Vm Go.ChangeShapes Go.WideShapes Go.ChangeAt Go.RowKit

theorem own : ownKnob Tryz.prog.godebug = none := by kernel_rfl

theorem noCount : NoCount Tryz.prog := noCount_of (by kernel_rfl)

theorem ovN_sound : OvSound Tryz.prog ovN := by
  intro f g args S v S' hf hg ρ w args' hS ha
  unfold ovN at hf
  cases hb : Nat.beq f 109 with
  | false => simp [hb] at hf
  | true =>
    have e : f = 109 := Nat.eq_of_beq_eq_true hb
    subst e
    simp only [Option.some.injEq] at hf
    subst hf
    exact .inl (ibV_sound Tryz.func109 (by kernel_rfl) (by kernel_rfl) (by kernel_rfl) (by kernel_rfl) hg hS ha)

/-- the run, in every world that holds the program's package-level variables -/
theorem walk {W : World} (hsh : W.ShapedOpen Tryz.prog) : Calls Tryz.prog 3 #[] W fun e W' => e = .returned (.bool true) ∧ W.keptBut W' (fun _ => False) := by
  have hmix : Tryz.prog.follows .mixedOrders = true := Checked.mixed Tryz.checked
  refine closed_true (P := Tryz.prog) hmix noCount ovN_sound run_true ?_
  have h2 : 2 < Tryz.prog.globals.size := by have := size3; omega
  have hrow : (((begin Tryz.prog (fun _ _ => 0) default).world.heap[2]?).bind Obj.row?) = some (#[.int .i64 0], 3) := by kernel_rfl
  obtain ⟨cs, h, _, _⟩ := hsh.1 2 #[.int .i64 0] 3 h2 hrow
  rw [size3]
  exact (Array.getElem?_eq_some_iff.1 h).1

theorem contract (H : Type) (enc : TypeId × Value → H) (W : World) (args : Array Value) (ds gs : List (DataW H)) (before : List MemPlace)
    (hW : DataW.Whole enc Tryz.prog Tryz.f3.params.toList Rows.ramfsNilSpec.vars false W args.toList ds gs before) (hsh : W.ShapedOpen Tryz.prog) :
    Calls Tryz.prog 3 args W fun e W' => ∃ v, e = .returned v ∧ Rows.ramfsNilSpec.post enc Tryz.prog Tryz.f3 false true false false W args v W' := by
  have hW' := hW
  obtain ⟨p, q, hA0, hV, rfl, hfz, hnd⟩ := hW
  have hA : DataW.TrodAll enc Tryz.prog W 0 (fun _ => true) true Tryz.f3.params.toList args.toList ds p := hA0
  rw [Tryz.params3] at hA
  obtain ⟨hargs, rfl, rfl⟩ := trodAll_nil hA
  obtain rfl : args = #[] := by cases args; simp_all
  obtain ⟨rfl, rfl⟩ := trodVars_none hV
  refine (walk hsh).mono fun e W' ⟨he, hk⟩ => ?_
  subst he
  refine ⟨_, rfl, [], [], _, [], [], [], hW', trodAll_cons_mk (shut_bool Tryz.underlying4 _) trodAll_mk0, ?_, rfl, World.keptBut_mono (fun _ h => h.elim) hk, fun h => by cases h⟩
  rw [Tryz.params3]
  exact trodAll_mk0

/-- the tables, for the witness -/
def firstCells : Array Value := ((List.range 256).map fun i => Value.int .u8 (cond (Nat.blt i 128) 0xF0 (cond (Nat.blt i 0xC2) 0xF1 (cond (Nat.blt i 0xE0) 0x02 (cond (Nat.beq i 0xE0) 0x13 (cond (Nat.blt i 0xED) 0x03 (cond (Nat.beq i 0xED) 0x23 (cond (Nat.blt i 0xF0) 0x03
  (cond (Nat.beq i 0xF0) 0x34 (cond (Nat.blt i 0xF4) 0x04 (cond (Nat.beq i 0xF4) 0x44 0xF1))))))))))).toArray
def acceptCells : Array Value := (([128, 191, 160, 191, 128, 159, 144, 191, 128, 143, 0, 0, 0, 0, 0, 0, 0, 0, 0, 0, 0, 0, 0, 0, 0, 0, 0, 0, 0, 0, 0, 0] : List Int).map fun i => Value.int .u8 i).toArray

def setCells (cs : Array Value) : Obj → Obj
  | .cells _ t frozen => .cells cs t frozen
  | o => o

noncomputable def laidWorld (os : Os) : World :=
  { World.holding Tryz.prog os ⟨#[], #[], []⟩ with heap := ((World.holding Tryz.prog os ⟨#[], #[], []⟩).heap.modify 0 (setCells firstCells)).modify 1 (setCells acceptCells) }

theorem laid_met (os : Os) : laidMet Tryz.prog Rows.ramfsNilRow.laid ((laidWorld os).forCall (fun _ _ => 0) ⟨#[], #[], []⟩).memory :=
  laidMet_of_run' 8 (by kernel_rfl) (by kernel_rfl)
theorem reads (os : Os) {H : Type} (enc : TypeId × Value → H) : ∃ places, DataW.whole enc Tryz.prog ((laidWorld os).forCall (fun _ _ => 0) ⟨#[], #[], []⟩).memory Tryz.f3.params.toList Rows.ramfsNilSpec.vars false (#[] : Array Value).toList 8 = some ([], [], places) :=
  ⟨[], by kernel_rfl⟩

set_option maxRecDepth 100000 in
theorem lifted (os : Os) (started : os.Started) (H : Type) (enc : TypeId × Value → H) (F : Stop.Interp) :
    ReturnsInHanded {} Tryz.checked os 3 .any ((OpenSpec.ofChange Rows.ramfsNilSpec).preRow enc Tryz.prog Tryz.f3 Rows.ramfsNilRow.domain false Rows.ramfsNilRow.laid) (((OpenSpec.ofChange Rows.ramfsNilSpec).at F).post enc Tryz.prog Tryz.f3 false true false false) := by
  obtain ⟨places, hx⟩ := reads os enc
  refine returnsInHanded_of_row (C := Tryz.checked) (s := OpenSpec.ofChange Rows.ramfsNilSpec) own started (by kernel_rfl) Tryz.func3
    (witness_row_at (enc := enc) (C := Tryz.checked) false (laidWorld os) #[] rfl (by kernel_rfl) (by kernel_rfl) (by kernel_rfl)
      (OpenSpec.preRow_of_cond 8 hx (by kernel_rfl) (fun k hk => by cases hk) (by kernel_rfl) (laid_met os))) ?_
  intro W base args ds gs before _ hW _ _ _ _ hsh _
  exact contract H enc W args ds gs before hW hsh

theorem said : Rows.RamfsNilSaid :=
  OpenClaim.holds_of_cond 3 Tryz.f3 rfl rfl rfl rfl rfl rfl rfl ⟨rfl, rfl, rfl, rfl, rfl⟩ rfl rfl rfl rfl rfl (by kernel_rfl) Tryz.func3 (by kernel_rfl)
    (of_decide_eq_true (by kernel_rfl)) (by unfold Func.isWrapper; first | (rw [if_pos (by decide +kernel)]; kernel_rfl) | (rw [if_neg (by decide +kernel)]; exact ⟨rfl, rfl⟩))
    (fun os started H enc _ F => by rw [OpenClaim.pre_eq_preRow]; exact lifted os started H enc F)

theorem plain (f : FuncId) (fn : Func) (hf : Tryz.pinned.checked.prog.funcNamed "metronome/metronomelaw22.RamfsNil" = some f) (hfn : Tryz.pinned.checked.prog.funcs[f]? = some fn) :
    true = Tryz.pinned.checked.prog.looks [] ∧ ∀ (j : Nat) t, fn.params[j]? = some t → Tryz.pinned.checked.prog.wantsStandIn t = false := by
  obtain rfl : f = 3 := Option.some.inj ((show Tryz.prog.funcNamed "metronome/metronomelaw22.RamfsNil" = some 3 by kernel_rfl).symm.trans hf) |>.symm
  obtain rfl : fn = Tryz.f3 := (Option.some.inj (Tryz.func3.symm.trans hfn)).symm
  refine ⟨by kernel_rfl, fun j t ht => ?_⟩
  rw [Tryz.params3] at ht
  simp at ht

/-- the card -/
theorem ramfsNilCard_holds : Rows.RamfsNilCardSaid :=
  Claim7.holds_tied_plain_at .later [] _ _ _ _ said (fun _ h => by cases h) (by kernel_rfl) (fun _ h => by cases h) ramfsNil_row_tie rfl ⟨rfl, rfl⟩ (by kernel_rfl) rfl plain (by kernel_rfl)

end Go.Proofs.YtgdpedfahfmjeaaGreatDoor
