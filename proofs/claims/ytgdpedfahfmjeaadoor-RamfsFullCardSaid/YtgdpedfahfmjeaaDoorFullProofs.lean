/-
  What is proved: the card of metronomelaw22.RamfsFull: the closed law returns true. Conditions: those of the card's row (the two listed tables lie as the program's text lays them).
-/
import Derived.Test.YtgdpedfahfmjeaaDoorFullRun
import Derived.Test.YtgdpedfahfmjeaaDoorCards
import Derived.Test.YtgdpedfahfmjeaaDoorTie
import Derived.ProofKit
import Derived.OpenShut
import Derived.Deep.DeepHandedRow
import Derived.Lib.LaidTab
import Derived.Lib.LaidU8T
namespace Go.Proofs.YtgdpedfahfmjeaaDoor
open Go Go.Vm Go.ChangeShapes Go.WideShapes Go.ChangeAt Go.RowKit

theorem own : ownKnob Tryd.prog.godebug = none := by kernel_rfl

/-- the run, in every world that holds the program's package-level variables, the two tables among them -/
theorem full_walk {W : World} (hU : Lib.Utf8Tabs 0 1 W) (hsh : W.ShapedOpen Tryd.prog) : Calls Tryd.prog 4 #[] W fun e W' => e = .returned (.bool true) ∧ W.keptBut W' (fun _ => False) := by
  refine tabs_true ovJ_sound run_full hU ?_
  have h2 : 2 < Tryd.prog.globals.size := by have := prog_size; omega
  have hrow : (((begin Tryd.prog (fun _ _ => 0) default).world.heap[2]?).bind Obj.row?) = some (#[.int .i64 0], 3) := by kernel_rfl
  obtain ⟨cs, h, _, _⟩ := hsh.1 2 #[.int .i64 0] 3 h2 hrow
  rw [prog_size]
  exact (Array.getElem?_eq_some_iff.1 h).1

theorem laid_eq : Rows.ramfsFullRow.laid = [("unicode/utf8.acceptRanges", Lib.acceptData), ("unicode/utf8.first", Lib.firstData)] := by kernel_rfl

set_option maxRecDepth 100000 in
theorem tabs_of_laid {W : World} (hL : laidMetH Tryd.prog Rows.ramfsFullRow.laid W) : Lib.Utf8Tabs 0 1 W := by
  rw [laid_eq] at hL
  have h : laidMet Tryd.prog [("unicode/utf8.acceptRanges", Lib.acceptData), ("unicode/utf8.first", Lib.firstData)] W := hL
  exact utf8Tabs_of_readsT (ρ := vren) (U8Types.of196 vlays) ⟨by kernel_rfl, by kernel_rfl, by kernel_rfl, by kernel_rfl, by kernel_rfl, by kernel_rfl, by kernel_rfl⟩ (Lib.laidMet.reads h (.tail _ (.head _))) (Lib.laidMet.reads h (.head _))

theorem contract (H : Type) (enc : TypeId × Value → H) (W : World) (args : Array Value) (ds gs : List (DataW H)) (before : List MemPlace)
    (hW : DataW.Whole enc Tryd.prog Tryd.f4.params.toList Rows.ramfsFullSpec.vars false W args.toList ds gs before) (hL : laidMetH Tryd.prog Rows.ramfsFullRow.laid W) (hsh : W.ShapedOpen Tryd.prog) :
    Calls Tryd.prog 4 args W fun e W' => ∃ v, e = .returned v ∧ Rows.ramfsFullSpec.post enc Tryd.prog Tryd.f4 false true false false W args v W' := by
  have hW' := hW
  obtain ⟨p, q, hA0, hV, rfl, hfz, hnd⟩ := hW
  have hA : DataW.TrodAll enc Tryd.prog W 0 (fun _ => true) true Tryd.f4.params.toList args.toList ds p := hA0
  rw [Tryd.params4] at hA
  obtain ⟨hargs, rfl, rfl⟩ := trodAll_nil hA
  obtain rfl : args = #[] := by cases args; simp_all
  obtain ⟨rfl, rfl⟩ := trodVars_none hV
  refine (full_walk (tabs_of_laid hL) hsh).mono fun e W' ⟨he, hk⟩ => ?_
  subst he
  refine ⟨_, rfl, [], [], _, [], [], [], hW', trodAll_cons_mk (shut_bool Tryd.underlying4 _) trodAll_mk0, ?_, rfl, World.keptBut_mono (fun _ h => h.elim) hk, fun h => by cases h⟩
  rw [Tryd.params4]
  exact trodAll_mk0

/-- the tables, for the witness -/
def firstCells : Array Value := ((List.range 256).map fun i => Value.int .u8 (cond (Nat.blt i 128) 0xF0 (cond (Nat.blt i 0xC2) 0xF1 (cond (Nat.blt i 0xE0) 0x02 (cond (Nat.beq i 0xE0) 0x13 (cond (Nat.blt i 0xED) 0x03 (cond (Nat.beq i 0xED) 0x23 (cond (Nat.blt i 0xF0) 0x03
  (cond (Nat.beq i 0xF0) 0x34 (cond (Nat.blt i 0xF4) 0x04 (cond (Nat.beq i 0xF4) 0x44 0xF1))))))))))).toArray
def acceptCells : Array Value := (([128, 191, 160, 191, 128, 159, 144, 191, 128, 143, 0, 0, 0, 0, 0, 0, 0, 0, 0, 0, 0, 0, 0, 0, 0, 0, 0, 0, 0, 0, 0, 0] : List Int).map fun i => Value.int .u8 i).toArray

def setCells (cs : Array Value) : Obj → Obj
  | .cells _ t frozen => .cells cs t frozen
  | o => o

noncomputable def laidWorld (os : Os) : World :=
  { World.holding Tryd.prog os ⟨#[], #[], []⟩ with heap := ((World.holding Tryd.prog os ⟨#[], #[], []⟩).heap.modify 0 (setCells firstCells)).modify 1 (setCells acceptCells) }

theorem laid_met (os : Os) : laidMet Tryd.prog Rows.ramfsFullRow.laid ((laidWorld os).forCall (fun _ _ => 0) ⟨#[], #[], []⟩).memory :=
  laidMet_of_run' 8 (by kernel_rfl) (by kernel_rfl)
theorem reads (os : Os) {H : Type} (enc : TypeId × Value → H) : ∃ places, DataW.whole enc Tryd.prog ((laidWorld os).forCall (fun _ _ => 0) ⟨#[], #[], []⟩).memory Tryd.f4.params.toList Rows.ramfsFullSpec.vars false (#[] : Array Value).toList 8 = some ([], [], places) :=
  ⟨[], by kernel_rfl⟩

set_option maxRecDepth 100000 in
theorem lifted (os : Os) (started : os.Started) (H : Type) (enc : TypeId × Value → H) (F : Stop.Interp) :
    ReturnsInHanded {} Tryd.checked os 4 .any ((OpenSpec.ofChange Rows.ramfsFullSpec).preRow enc Tryd.prog Tryd.f4 Rows.ramfsFullRow.domain false Rows.ramfsFullRow.laid) (((OpenSpec.ofChange Rows.ramfsFullSpec).at F).post enc Tryd.prog Tryd.f4 false true false false) := by
  obtain ⟨places, hx⟩ := reads os enc
  refine returnsInHanded_of_row (C := Tryd.checked) (s := OpenSpec.ofChange Rows.ramfsFullSpec) own started (by kernel_rfl) Tryd.func4
    (witness_row_at (enc := enc) (C := Tryd.checked) false (laidWorld os) #[] rfl (by kernel_rfl) (by kernel_rfl) (by kernel_rfl)
      (OpenSpec.preRow_of_cond 8 hx (by kernel_rfl) (fun k hk => by cases hk) (by kernel_rfl) (laid_met os))) ?_
  intro W base args ds gs before _ hW _ _ _ hL hsh _
  exact contract H enc W args ds gs before hW hL hsh

theorem said : Rows.RamfsFullSaid :=
  OpenClaim.holds_of_cond 4 Tryd.f4 rfl rfl rfl rfl rfl rfl rfl ⟨rfl, rfl, rfl, rfl, rfl⟩ rfl rfl rfl rfl rfl (by kernel_rfl) Tryd.func4 (by kernel_rfl)
    (of_decide_eq_true (by kernel_rfl)) (by unfold Func.isWrapper; first | (rw [if_pos (by decide +kernel)]; kernel_rfl) | (rw [if_neg (by decide +kernel)]; exact ⟨rfl, rfl⟩))
    (fun os started H enc _ F => by rw [OpenClaim.pre_eq_preRow]; exact lifted os started H enc F)

theorem plain (f : FuncId) (fn : Func) (hf : Tryd.pinned.checked.prog.funcNamed "metronome/metronomelaw22.RamfsFull" = some f) (hfn : Tryd.pinned.checked.prog.funcs[f]? = some fn) :
    true = Tryd.pinned.checked.prog.looks [] ∧ ∀ (j : Nat) t, fn.params[j]? = some t → Tryd.pinned.checked.prog.wantsStandIn t = false := by
  obtain rfl : f = 4 := Option.some.inj ((show Tryd.prog.funcNamed "metronome/metronomelaw22.RamfsFull" = some 4 by kernel_rfl).symm.trans hf) |>.symm
  obtain rfl : fn = Tryd.f4 := (Option.some.inj (Tryd.func4.symm.trans hfn)).symm
  refine ⟨by kernel_rfl, fun j t ht => ?_⟩
  rw [Tryd.params4] at ht
  simp at ht

/-- the card -/
theorem ramfsFullCard_holds : Rows.RamfsFullCardSaid :=
  Claim7.holds_tied_plain_at .later [] _ _ _ _ said (fun _ h => by cases h) (by kernel_rfl) (fun _ h => by cases h) ramfsFull_row_tie rfl ⟨rfl, rfl⟩ (by kernel_rfl) rfl plain (by kernel_rfl)

end Go.Proofs.YtgdpedfahfmjeaaDoor
