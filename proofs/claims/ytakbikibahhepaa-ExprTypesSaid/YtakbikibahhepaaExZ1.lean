/-
  ExprTypes: for all trees and tables, the kind that an expression has, or what is wrong with it, is the document's.
-/
import Derived.Test.YtakbikibahhepaaExR4
import Derived.Test.YtakbikibahhepaaExC3
set_option linter.unusedSimpArgs false
set_option linter.unusedVariables false
namespace Go.Proofs.Ytakbikibahhepaa
open Go.RowKit Go.ChangeShapes Go.WideShapes Go.ChangeAt
set_option maxRecDepth 100000 in
theorem exprTypes_law {H : Type} {enc : TypeId × Value → H} : LawWalk Try.prog 3 Try.f3 H enc := by
  intro W base args ds ps hval hA
  rw [Try.params3] at hval
  have hA : DataW.TrodAll enc Try.prog W 0 (fun _ => true) true [26, 4, 32] args ds ps := hA
  obtain ⟨v0, vs0, d0, ds0, p0, q0, hargs, rfl, rfl, h0, r0⟩ := trodAll_cons hA
  obtain ⟨v1, vs1, d1, ds1, p1, q1, rfl, rfl, rfl, h1, r1⟩ := trodAll_cons r0
  obtain ⟨v2, vs2, d2, ds2, p2, q2, rfl, rfl, rfl, h2, r2⟩ := trodAll_cons r1
  obtain ⟨rfl, rfl, rfl⟩ := trodAll_nil r2
  subst hargs
  obtain ⟨u0, x0, rfl, g0, k0⟩ := open_ex (hval 0 26 v0 rfl rfl) h0
  obtain ⟨x1, rfl, rfl, rfl⟩ := open_bool Try.underlying4 (hval 1 4 v1 rfl rfl) h1
  obtain ⟨u2, t2, cs2, rfl, g2⟩ := open_tab (hval 2 32 v2 rfl rfl) h2
  exact types_walk u0 u2 x0 x1 t2 cs2 W g0 g2
end Go.Proofs.Ytakbikibahhepaa
