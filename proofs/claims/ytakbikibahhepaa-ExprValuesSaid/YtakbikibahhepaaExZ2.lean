/-
  ExprValues: for all trees and rows, the program and the document give one value, or one error.
-/
import Derived.Test.YtakbikibahhepaaExR9
import Derived.Test.YtakbikibahhepaaExC2
set_option linter.unusedSimpArgs false
set_option linter.unusedVariables false
namespace Go.Proofs.Ytakbikibahhepaa
open Go.RowKit Go.ChangeShapes Go.WideShapes Go.ChangeAt
set_option maxRecDepth 100000 in
theorem exprValues_law {H : Type} {enc : TypeId × Value → H} : LawWalk Try.prog 4 Try.f4 H enc := by
  intro W base args ds ps hval hA
  rw [Try.params4] at hval
  have hA : DataW.TrodAll enc Try.prog W 0 (fun _ => true) true [26, 40] args ds ps := hA
  obtain ⟨v0, vs0, d0, ds0, p0, q0, hargs, rfl, rfl, h0, r0⟩ := trodAll_cons hA
  obtain ⟨v1, vs1, d1, ds1, p1, q1, rfl, rfl, rfl, h1, r1⟩ := trodAll_cons r0
  obtain ⟨rfl, rfl, rfl⟩ := trodAll_nil r1
  subst hargs
  obtain ⟨u0, x0, rfl, g0, k0⟩ := open_ex (hval 0 26 v0 rfl rfl) h0
  obtain ⟨x1, g1, k1, m1⟩ := open_rowT (hval 1 40 v1 rfl rfl) h1
  exact values_walk u0 v1 x0 x1 W g0 g1 k0 k1
end Go.Proofs.Ytakbikibahhepaa
