/-
  Two closed facts of the program that each closing text asks for. No condition.
-/
import Derived.Test.YtdfojghhpdkpfaaGreatDoorRows
import Derived.ProofKit
import Derived.WalkKit
namespace Go.Proofs.YtdfojghhpdkpfaaGreatDoor
open Go.RowKit
theorem P_own : ownKnob Tryz.prog.godebug = none := by kernel_rfl
theorem P_laid : laidOutB Tryz.prog = true := by kernel_rfl
end Go.Proofs.YtdfojghhpdkpfaaGreatDoor
