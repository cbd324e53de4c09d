/-
  MvccTurns: for all operations, two attempts may be settled in either order.
-/
import Derived.Test.YtoldelocfmpccaaMvB1W
set_option linter.unusedSimpArgs false
set_option linter.unusedVariables false
namespace Go.Proofs.Ytoldelocfmpccaa
open Go.RowKit Go.ChangeShapes Go.WideShapes Go.ChangeAt
set_option maxRecDepth 100000 in
theorem mvccTurns_law {H : Type} {enc : TypeId × Value → H} : LawWalk Try.prog 4 Try.f4 H enc := by
  intro W base args ds ps hval hA
  rw [Try.params4] at hval
  have hA : DataW.TrodAll enc Try.prog W 0 (fun _ => true) true [22, 26, 26, 4, 4] args ds ps := hA
  obtain ⟨v0, vs0, d0, ds0, p0, q0, hargs, rfl, rfl, h0, r0⟩ := trodAll_cons hA
  obtain ⟨v1, vs1, d1, ds1, p1, q1, rfl, rfl, rfl, h1, r1⟩ := trodAll_cons r0
  obtain ⟨v2, vs2, d2, ds2, p2, q2, rfl, rfl, rfl, h2, r2⟩ := trodAll_cons r1
  obtain ⟨v3, vs3, d3, ds3, p3, q3, rfl, rfl, rfl, h3, r3⟩ := trodAll_cons r2
  obtain ⟨v4, vs4, d4, ds4, p4, q4, rfl, rfl, rfl, h4, r4⟩ := trodAll_cons r3
  obtain ⟨rfl, rfl, rfl⟩ := trodAll_nil r4
  subst hargs
  obtain ⟨x0, g0⟩ := open_ops8 (hval 0 22 v0 rfl rfl) h0
  obtain ⟨x1, rfl⟩ := open_try (hval 1 26 v1 rfl rfl) h1
  obtain ⟨x2, rfl⟩ := open_try (hval 2 26 v2 rfl rfl) h2
  obtain ⟨x3, rfl, rfl, rfl⟩ := open_bool Try.underlying4 (hval 3 4 v3 rfl rfl) h3
  obtain ⟨x4, rfl, rfl, rfl⟩ := open_bool Try.underlying4 (hval 4 4 v4 rfl rfl) h4
  exact turns_walk v0 x0 x1 x2 x3 x4 W g0
end Go.Proofs.Ytoldelocfmpccaa
