/-
  PartLocks: for all commands, a Prepare that is OK locks all its writes, and nobody but a Settle of its attempt unlocks.
-/
import Derived.Test.YtoldelocfmpccaaS9
import Derived.Test.YtoldelocfmpccaaS8
import Derived.Test.YtoldelocfmpccaaS7
import Derived.Test.YtoldelocfmpccaaS6
import Derived.Test.YtoldelocfmpccaaS5
import Derived.Test.YtoldelocfmpccaaS4
import Derived.Test.YtoldelocfmpccaaS3
import Derived.Test.YtoldelocfmpccaaS2
import Derived.Test.YtoldelocfmpccaaS14
import Derived.Test.YtoldelocfmpccaaS13
import Derived.Test.YtoldelocfmpccaaS12
import Derived.Test.YtoldelocfmpccaaS11
import Derived.Test.YtoldelocfmpccaaS10
import Derived.Test.YtoldelocfmpccaaS1
import Derived.Test.YtoldelocfmpccaaU1
import Derived.Test.YtoldelocfmpccaaPaB6W
set_option linter.unusedSimpArgs false
set_option linter.unusedVariables false
namespace Go.Proofs.Ytoldelocfmpccaa
open Go.RowKit Go.ChangeShapes Go.WideShapes Go.ChangeAt
set_option maxRecDepth 100000 in
theorem partLocks_law {H : Type} {enc : TypeId × Value → H} : LawWalk Try.prog 17 Try.f17 H enc := by
  intro W base args ds ps hval hA
  rw [Try.params17] at hval
  have hA : DataW.TrodAll enc Try.prog W 0 (fun _ => true) true [72] args ds ps := hA
  obtain ⟨v0, vs0, d0, ds0, p0, q0, hargs, rfl, rfl, h0, r0⟩ := trodAll_cons hA
  obtain ⟨rfl, rfl, rfl⟩ := trodAll_nil r0
  subst hargs
  obtain ⟨x0, g0⟩ := open_cmds (hval 0 72 v0 rfl rfl) h0
  exact locks_walk v0 x0 W g0
end Go.Proofs.Ytoldelocfmpccaa
