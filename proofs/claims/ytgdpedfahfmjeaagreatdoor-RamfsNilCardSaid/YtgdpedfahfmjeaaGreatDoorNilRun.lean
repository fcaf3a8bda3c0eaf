/-
  What is proved: the closed run of metronomelaw22.RamfsNil, in the virtual semantics, answers true (by the kernel's evaluation). No condition.
-/
import Derived.Test.YtgdpedfahfmjeaaGreatDoorVmBF
import Derived.Test.YtgdpedfahfmjeaaGreatDoorChecked
import Derived.KernelRfl
namespace Go.Proofs.YtgdpedfahfmjeaaGreatDoor
open Go.Vm

/-- internal/bytealg.IndexByteString stands in place -/
def ovN : Ov := fun g => match Nat.beq g 109 with
  | true => some ibV
  | false => none

theorem size3 : Tryz.prog.globals.size = 3 := by kernel_rfl

theorem run3 : okTrue ((ev Tryz.prog ovN 100000).call 3 [] none { h := .nil, nx := 3 }) = true := by kernel_rfl

theorem run_true : okTrue ((ev Tryz.prog ovN 100000).call 3 [] none (bareSt Tryz.prog)) = true := by
  unfold bareSt
  rw [size3]
  exact run3

end Go.Proofs.YtgdpedfahfmjeaaGreatDoor
