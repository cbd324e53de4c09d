/-
  MvccScans: for all operations, a scan is what Get tells of each key within its span, rising.
-/
import Derived.Test.YtoldelocfmpccaaMvB6W
import Derived.Test.YtoldelocfmpccaaMvSpW
set_option linter.unusedSimpArgs false
set_option linter.unusedVariables false
namespace Go.Proofs.Ytoldelocfmpccaa
open Go.RowKit Go.ChangeShapes Go.WideShapes Go.ChangeAt
set_option maxRecDepth 100000 in
theorem mvccScans_law {H : Type} {enc : TypeId × Value → H} : LawWalk Try.prog 8 Try.f8 H enc := by
  intro W base args ds ps hval hA
  rw [Try.params8] at hval
  have hA : DataW.TrodAll enc Try.prog W 0 (fun _ => true) true [22, 53, 28] args ds ps := hA
  obtain ⟨v0, vs0, d0, ds0, p0, q0, hargs, rfl, rfl, h0, r0⟩ := trodAll_cons hA
  obtain ⟨v1, vs1, d1, ds1, p1, q1, rfl, rfl, rfl, h1, r1⟩ := trodAll_cons r0
  obtain ⟨v2, vs2, d2, ds2, p2, q2, rfl, rfl, rfl, h2, r2⟩ := trodAll_cons r1
  obtain ⟨rfl, rfl, rfl⟩ := trodAll_nil r2
  subst hargs
  obtain ⟨x0, g0⟩ := open_ops8 (hval 0 22 v0 rfl rfl) h0
  obtain ⟨x1, y1, rfl, k1, m1⟩ := open_span (hval 1 53 v1 rfl rfl) h1
  obtain ⟨x2, rfl⟩ := open_st (hval 2 28 v2 rfl rfl) h2
  exact scans_walk v0 x0 x1 y1 x2 W g0 k1 m1
end Go.Proofs.Ytoldelocfmpccaa
