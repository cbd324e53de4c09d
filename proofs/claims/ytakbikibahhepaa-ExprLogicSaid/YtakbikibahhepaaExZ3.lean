/-
  ExprLogic: for all trees and rows, the laws of three-valued logic hold.
-/
import Derived.Test.YtakbikibahhepaaExLB
import Derived.Test.YtakbikibahhepaaExC2
set_option linter.unusedSimpArgs false
set_option linter.unusedVariables false
namespace Go.Proofs.Ytakbikibahhepaa
open Go.RowKit Go.ChangeShapes Go.WideShapes Go.ChangeAt
set_option maxRecDepth 100000 in
theorem exprLogic_law {H : Type} {enc : TypeId × Value → H} : LawWalk Try.prog 5 Try.f5 H enc := by
  intro W base args ds ps hval hA
  rw [Try.params5] at hval
  have hA : DataW.TrodAll enc Try.prog W 0 (fun _ => true) true [26, 26, 26, 40] args ds ps := hA
  obtain ⟨v0, vs0, d0, ds0, p0, q0, hargs, rfl, rfl, h0, r0⟩ := trodAll_cons hA
  obtain ⟨v1, vs1, d1, ds1, p1, q1, rfl, rfl, rfl, h1, r1⟩ := trodAll_cons r0
  obtain ⟨v2, vs2, d2, ds2, p2, q2, rfl, rfl, rfl, h2, r2⟩ := trodAll_cons r1
  obtain ⟨v3, vs3, d3, ds3, p3, q3, rfl, rfl, rfl, h3, r3⟩ := trodAll_cons r2
  obtain ⟨rfl, rfl, rfl⟩ := trodAll_nil r3
  subst hargs
  obtain ⟨u0, x0, rfl, g0, k0⟩ := open_ex (hval 0 26 v0 rfl rfl) h0
  obtain ⟨u1, x1, rfl, g1, k1⟩ := open_ex (hval 1 26 v1 rfl rfl) h1
  obtain ⟨u2, x2, rfl, g2, k2⟩ := open_ex (hval 2 26 v2 rfl rfl) h2
  obtain ⟨x3, g3, k3, m3⟩ := open_rowT (hval 3 40 v3 rfl rfl) h3
  exact logic_walk u0 u1 u2 v3 x0 x1 x2 x3 W g0 g1 g2 g3 k0 k1 k2 k3
end Go.Proofs.Ytakbikibahhepaa
