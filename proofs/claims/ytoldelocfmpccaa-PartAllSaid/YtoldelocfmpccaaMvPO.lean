/-
  Two closed facts of the program that each closing text asks for. No condition.
-/
import Derived.Test.YtoldelocfmpccaaRows
import Derived.ProofKit
import Derived.WalkKit
namespace Go.Proofs.Ytoldelocfmpccaa
open Go.RowKit
theorem P_own : ownKnob Try.prog.godebug = none := by kernel_rfl
theorem P_laid : laidOutB Try.prog = true := by kernel_rfl
end Go.Proofs.Ytoldelocfmpccaa
