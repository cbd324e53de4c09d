/-
  LexBack: tokens that are written with a blank behind each are read as they were.
-/
import Derived.Test.YtcckifllammpbaaLexB
set_option linter.unusedSimpArgs false
set_option linter.unusedVariables false
namespace Go.Proofs.Ytcckifllammpbaa
open Go.RowKit Go.ChangeShapes Go.WideShapes Go.ChangeAt
set_option maxRecDepth 100000 in
theorem lexBack_law {H : Type} {enc : TypeId × Value → H} : LawWalkS Try.prog 5 Try.f5 H enc := by
  intro W base args ds ps hval hA hsh
  rw [Try.params5] at hval
  have hA : DataW.TrodAll enc Try.prog W 0 (fun _ => true) true [23, 4] args ds ps := hA
  obtain ⟨v0, vs0, d0, ds0, p0, q0, hargs, rfl, rfl, h0, r0⟩ := trodAll_cons hA
  obtain ⟨v1, vs1, d1, ds1, p1, q1, rfl, rfl, rfl, h1, r1⟩ := trodAll_cons r0
  obtain ⟨rfl, rfl, rfl⟩ := trodAll_nil r1
  subst hargs
  obtain ⟨x0, g0⟩ := open_toks (hval 0 23 v0 rfl rfl) h0
  obtain ⟨x1, rfl, rfl, rfl⟩ := open_bool Try.underlying4 (hval 1 4 v1 rfl rfl) h1
  exact (lexback_walk v0 x0 x1 _ W g0 (Mx.of hsh))
end Go.Proofs.Ytcckifllammpbaa
