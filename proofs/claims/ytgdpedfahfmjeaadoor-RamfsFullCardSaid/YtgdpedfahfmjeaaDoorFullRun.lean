/-
  What is proved: the closed run of metronomelaw22.RamfsFull, in the virtual semantics, with contracts in place of ramfs' inner functions and of known, answers true (by the kernel's evaluation). No condition.
-/
import Derived.Test.YtgdpedfahfmjeaaDoorRc
namespace Go.Proofs.YtgdpedfahfmjeaaDoor
open Go Go.Vm

def ovJ : Ov := fun f => match f with
  | 5 => some gKnown
  | f => ovI f
theorem ovJ_sound : OvSound Tryd.prog ovJ := by
  refine ovSound_of fun f g hf args S e S' hg => ?_
  unfold ovJ at hf
  split at hf
  · cases hf; exact known_T hg
  · exact ovI_sound f g args S e S' hf hg

theorem run_full : okTrue ((ev Tryd.prog ovJ 100000).call 4 [] none { h := tabsT, nx := 3 }) = true := by kernel_rfl

end Go.Proofs.YtgdpedfahfmjeaaDoor
