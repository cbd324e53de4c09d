/-
  ExprNull: for all trees and rows, arithmetic and comparisons with a null are null, and IS NULL tells it.
-/
import Derived.Test.YtakbikibahhepaaExLA
import Derived.Test.YtakbikibahhepaaExC2
set_option linter.unusedSimpArgs false
set_option linter.unusedVariables false
namespace Go.Proofs.Ytakbikibahhepaa
open Go.RowKit Go.ChangeShapes Go.WideShapes Go.ChangeAt
set_option maxRecDepth 100000 in
theorem exprNull_law {H : Type} {enc : TypeId × Value → H} : LawWalk Try.prog 8 Try.f8 H enc := by
  intro W base args ds ps hval hA
  rw [Try.params8] at hval
  have hA : DataW.TrodAll enc Try.prog W 0 (fun _ => true) true [26, 3, 40] args ds ps := hA
  obtain ⟨v0, vs0, d0, ds0, p0, q0, hargs, rfl, rfl, h0, r0⟩ := trodAll_cons hA
  obtain ⟨v1, vs1, d1, ds1, p1, q1, rfl, rfl, rfl, h1, r1⟩ := trodAll_cons r0
  obtain ⟨v2, vs2, d2, ds2, p2, q2, rfl, rfl, rfl, h2, r2⟩ := trodAll_cons r1
  obtain ⟨rfl, rfl, rfl⟩ := trodAll_nil r2
  subst hargs
  obtain ⟨u0, x0, rfl, g0, k0⟩ := open_ex (hval 0 26 v0 rfl rfl) h0
  obtain ⟨x1, rfl, rfl, rfl, g1⟩ := open_int Try.underlying3 (hval 1 3 v1 rfl rfl) h1
  obtain ⟨x2, g2, k2, m2⟩ := open_rowT (hval 2 40 v2 rfl rfl) h2
  exact null_walk u0 v2 x0 x1 x2 W g0 g2 k0 k2
end Go.Proofs.Ytakbikibahhepaa
