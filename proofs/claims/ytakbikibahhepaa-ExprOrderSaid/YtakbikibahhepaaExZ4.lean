/-
  ExprOrder: for all values, comparisons say the same of two values, turned, and one of three of any two that are not null.
-/
import Derived.Test.YtakbikibahhepaaExL2
import Derived.Test.YtakbikibahhepaaExC
set_option linter.unusedSimpArgs false
set_option linter.unusedVariables false
namespace Go.Proofs.Ytakbikibahhepaa
open Go.RowKit Go.ChangeShapes Go.WideShapes Go.ChangeAt
set_option maxRecDepth 100000 in
theorem exprOrder_law {H : Type} {enc : TypeId × Value → H} : LawWalk Try.prog 6 Try.f6 H enc := by
  intro W base args ds ps hval hA
  rw [Try.params6] at hval
  have hA : DataW.TrodAll enc Try.prog W 0 (fun _ => true) true [23, 23, 40] args ds ps := hA
  obtain ⟨v0, vs0, d0, ds0, p0, q0, hargs, rfl, rfl, h0, r0⟩ := trodAll_cons hA
  obtain ⟨v1, vs1, d1, ds1, p1, q1, rfl, rfl, rfl, h1, r1⟩ := trodAll_cons r0
  obtain ⟨v2, vs2, d2, ds2, p2, q2, rfl, rfl, rfl, h2, r2⟩ := trodAll_cons r1
  obtain ⟨rfl, rfl, rfl⟩ := trodAll_nil r2
  subst hargs
  obtain ⟨x0, rfl, g0, k0⟩ := open_val (hval 0 23 v0 rfl rfl) h0
  obtain ⟨x1, rfl, g1, k1⟩ := open_val (hval 1 23 v1 rfl rfl) h1
  obtain ⟨x2, g2⟩ := open_any (hval 2 40 v2 rfl rfl) h2
  exact order_walk x0 x1 v2 g0 g1 W
end Go.Proofs.Ytakbikibahhepaa
