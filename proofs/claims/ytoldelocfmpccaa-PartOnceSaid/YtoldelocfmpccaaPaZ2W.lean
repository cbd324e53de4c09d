/-
  PartOnce: for all commands, a command that comes twice in a row does nothing the second time.
-/
import Derived.Test.YtoldelocfmpccaaS1
import Derived.Test.YtoldelocfmpccaaS2
import Derived.Test.YtoldelocfmpccaaS3
import Derived.Test.YtoldelocfmpccaaS4
import Derived.Test.YtoldelocfmpccaaS5
import Derived.Test.YtoldelocfmpccaaS6
import Derived.Test.YtoldelocfmpccaaS7
import Derived.Test.YtoldelocfmpccaaS8
import Derived.Test.YtoldelocfmpccaaS9
import Derived.Test.YtoldelocfmpccaaS10
import Derived.Test.YtoldelocfmpccaaS11
import Derived.Test.YtoldelocfmpccaaS12
import Derived.Test.YtoldelocfmpccaaS13
import Derived.Test.YtoldelocfmpccaaS14
import Derived.Test.YtoldelocfmpccaaPaB2W
set_option linter.unusedSimpArgs false
set_option linter.unusedVariables false
namespace Go.Proofs.Ytoldelocfmpccaa
open Go.RowKit Go.ChangeShapes Go.WideShapes Go.ChangeAt
set_option maxRecDepth 100000 in
theorem partOnce_law {H : Type} {enc : TypeId × Value → H} : LawWalk Try.prog 16 Try.f16 H enc := by
  intro W base args ds ps hval hA
  rw [Try.params16] at hval
  have hA : DataW.TrodAll enc Try.prog W 0 (fun _ => true) true [72, 81] args ds ps := hA
  obtain ⟨v0, vs0, d0, ds0, p0, q0, hargs, rfl, rfl, h0, r0⟩ := trodAll_cons hA
  obtain ⟨v1, vs1, d1, ds1, p1, q1, rfl, rfl, rfl, h1, r1⟩ := trodAll_cons r0
  obtain ⟨rfl, rfl, rfl⟩ := trodAll_nil r1
  subst hargs
  obtain ⟨x0, g0⟩ := open_cmds (hval 0 72 v0 rfl rfl) h0
  obtain ⟨x1, vsp1, vwr1, rfl, ks1, kw1, kl1⟩ := open_cmd (hval 1 81 v1 rfl rfl) h1
  exact once_walk v0 vsp1 vwr1 x0 x1 W g0 ks1 kw1 kl1
end Go.Proofs.Ytoldelocfmpccaa
