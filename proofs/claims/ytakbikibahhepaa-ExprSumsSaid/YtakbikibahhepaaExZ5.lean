/-
  ExprSums: for all numbers, what is added is taken away again, a quotient and what is left make the number, and what is no int64 is told.
-/
import Derived.Test.YtakbikibahhepaaExL4
import Derived.Test.YtakbikibahhepaaExC
set_option linter.unusedSimpArgs false
set_option linter.unusedVariables false
namespace Go.Proofs.Ytakbikibahhepaa
open Go.RowKit Go.ChangeShapes Go.WideShapes Go.ChangeAt
set_option maxRecDepth 100000 in
theorem exprSums_law {H : Type} {enc : TypeId × Value → H} : LawWalk Try.prog 7 Try.f7 H enc := by
  intro W base args ds ps hval hA
  rw [Try.params7] at hval
  have hA : DataW.TrodAll enc Try.prog W 0 (fun _ => true) true [2, 2] args ds ps := hA
  obtain ⟨v0, vs0, d0, ds0, p0, q0, hargs, rfl, rfl, h0, r0⟩ := trodAll_cons hA
  obtain ⟨v1, vs1, d1, ds1, p1, q1, rfl, rfl, rfl, h1, r1⟩ := trodAll_cons r0
  obtain ⟨rfl, rfl, rfl⟩ := trodAll_nil r1
  subst hargs
  obtain ⟨x0, rfl, rfl, rfl, g0⟩ := open_int Try.underlying2 (hval 0 2 v0 rfl rfl) h0
  obtain ⟨x1, rfl, rfl, rfl, g1⟩ := open_int Try.underlying2 (hval 1 2 v1 rfl rfl) h1
  exact sums_walk x0 x1 (wf_i64B g0) (wf_i64B g1) W
end Go.Proofs.Ytakbikibahhepaa
