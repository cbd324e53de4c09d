/-
  PartEpochs: for all commands, whoever holds an elder epoch turns nothing, and is told so.
-/
import Derived.Test.YtoldelocfmpccaaS1
import Derived.Test.YtoldelocfmpccaaS2
import Derived.Test.YtoldelocfmpccaaS3
import Derived.Test.YtoldelocfmpccaaS4
import Derived.Test.YtoldelocfmpccaaS5
import Derived.Test.YtoldelocfmpccaaS6
import Derived.Test.YtoldelocfmpccaaS7
import Derived.Test.YtoldelocfmpccaaS8
import Derived.Test.YtoldelocfmpccaaS9
import Derived.Test.YtoldelocfmpccaaS10
import Derived.Test.YtoldelocfmpccaaS11
import Derived.Test.YtoldelocfmpccaaS12
import Derived.Test.YtoldelocfmpccaaS13
import Derived.Test.YtoldelocfmpccaaS14
import Derived.Test.YtoldelocfmpccaaPaB1W
set_option linter.unusedSimpArgs false
set_option linter.unusedVariables false
namespace Go.Proofs.Ytoldelocfmpccaa
open Go.RowKit Go.ChangeShapes Go.WideShapes Go.ChangeAt
set_option maxRecDepth 100000 in
theorem partEpochs_law {H : Type} {enc : TypeId × Value → H} : LawWalk Try.prog 18 Try.f18 H enc := by
  intro W base args ds ps hval hA
  rw [Try.params18] at hval
  have hA : DataW.TrodAll enc Try.prog W 0 (fun _ => true) true [72, 81, 3] args ds ps := hA
  obtain ⟨v0, vs0, d0, ds0, p0, q0, hargs, rfl, rfl, h0, r0⟩ := trodAll_cons hA
  obtain ⟨v1, vs1, d1, ds1, p1, q1, rfl, rfl, rfl, h1, r1⟩ := trodAll_cons r0
  obtain ⟨v2, vs2, d2, ds2, p2, q2, rfl, rfl, rfl, h2, r2⟩ := trodAll_cons r1
  obtain ⟨rfl, rfl, rfl⟩ := trodAll_nil r2
  subst hargs
  obtain ⟨x0, g0⟩ := open_cmds (hval 0 72 v0 rfl rfl) h0
  obtain ⟨x1, vsp1, vwr1, rfl, ks1, kw1, kl1⟩ := open_cmd (hval 1 81 v1 rfl rfl) h1
  obtain ⟨x2, rfl, rfl, rfl, g2⟩ := open_int Try.underlying3 (hval 2 3 v2 rfl rfl) h2
  exact epochs_walk v0 vsp1 vwr1 x0 x1 x2 W g0 ks1 kw1 kl1 (i64_of_wf g2)
end Go.Proofs.Ytoldelocfmpccaa
