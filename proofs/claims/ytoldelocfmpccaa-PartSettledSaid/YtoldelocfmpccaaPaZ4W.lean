/-
  PartSettled: for all commands, a write that was prepared and settled is told from its stamp on, and not ahead of it.
-/
import Derived.Test.YtoldelocfmpccaaS1
import Derived.Test.YtoldelocfmpccaaS2
import Derived.Test.YtoldelocfmpccaaS3
import Derived.Test.YtoldelocfmpccaaS4
import Derived.Test.YtoldelocfmpccaaS5
import Derived.Test.YtoldelocfmpccaaS6
import Derived.Test.YtoldelocfmpccaaS7
import Derived.Test.YtoldelocfmpccaaS8
import Derived.Test.YtoldelocfmpccaaS9
import Derived.Test.YtoldelocfmpccaaS10
import Derived.Test.YtoldelocfmpccaaS11
import Derived.Test.YtoldelocfmpccaaS12
import Derived.Test.YtoldelocfmpccaaS13
import Derived.Test.YtoldelocfmpccaaS14
import Derived.Test.YtoldelocfmpccaaPaB4W
set_option linter.unusedSimpArgs false
set_option linter.unusedVariables false
namespace Go.Proofs.Ytoldelocfmpccaa
open Go.RowKit Go.ChangeShapes Go.WideShapes Go.ChangeAt
set_option maxRecDepth 100000 in
theorem partSettled_law {H : Type} {enc : TypeId × Value → H} : LawWalk Try.prog 20 Try.f20 H enc := by
  intro W base args ds ps hval hA
  rw [Try.params20] at hval
  have hA : DataW.TrodAll enc Try.prog W 0 (fun _ => true) true [72, 26, 28, 24, 4, 28] args ds ps := hA
  obtain ⟨v0, vs0, d0, ds0, p0, q0, hargs, rfl, rfl, h0, r0⟩ := trodAll_cons hA
  obtain ⟨v1, vs1, d1, ds1, p1, q1, rfl, rfl, rfl, h1, r1⟩ := trodAll_cons r0
  obtain ⟨v2, vs2, d2, ds2, p2, q2, rfl, rfl, rfl, h2, r2⟩ := trodAll_cons r1
  obtain ⟨v3, vs3, d3, ds3, p3, q3, rfl, rfl, rfl, h3, r3⟩ := trodAll_cons r2
  obtain ⟨v4, vs4, d4, ds4, p4, q4, rfl, rfl, rfl, h4, r4⟩ := trodAll_cons r3
  obtain ⟨v5, vs5, d5, ds5, p5, q5, rfl, rfl, rfl, h5, r5⟩ := trodAll_cons r4
  obtain ⟨rfl, rfl, rfl⟩ := trodAll_nil r5
  subst hargs
  obtain ⟨x0, g0⟩ := open_cmds (hval 0 72 v0 rfl rfl) h0
  obtain ⟨x1, rfl⟩ := open_try (hval 1 26 v1 rfl rfl) h1
  obtain ⟨x2, rfl⟩ := open_st (hval 2 28 v2 rfl rfl) h2
  obtain ⟨x3, rfl, k3, m3⟩ := open_wr (hval 3 24 v3 rfl rfl) h3
  obtain ⟨x4, rfl, rfl, rfl⟩ := open_bool Try.underlying4 (hval 4 4 v4 rfl rfl) h4
  obtain ⟨x5, rfl⟩ := open_st (hval 5 28 v5 rfl rfl) h5
  exact settled_walk v0 x0 x1 x2 x3 x4 x5 W g0 k3 m3
end Go.Proofs.Ytoldelocfmpccaa
