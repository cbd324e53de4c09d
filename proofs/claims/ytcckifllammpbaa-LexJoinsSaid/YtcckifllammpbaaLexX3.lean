/-
  LexJoins: for any two texts that have tokens, those of both with a line end between are theirs.
-/
import Derived.Test.YtcckifllammpbaaLexJ
set_option linter.unusedSimpArgs false
set_option linter.unusedVariables false
namespace Go.Proofs.Ytcckifllammpbaa
open Go.RowKit Go.ChangeShapes Go.WideShapes Go.ChangeAt
set_option maxRecDepth 100000 in
theorem lexJoins_law {H : Type} {enc : TypeId × Value → H} : LawWalkS Try.prog 6 Try.f6 H enc := by
  intro W base args ds ps hval hA hsh
  rw [Try.params6] at hval
  have hA : DataW.TrodAll enc Try.prog W 0 (fun _ => true) true [9, 9] args ds ps := hA
  obtain ⟨v0, vs0, d0, ds0, p0, q0, hargs, rfl, rfl, h0, r0⟩ := trodAll_cons hA
  obtain ⟨v1, vs1, d1, ds1, p1, q1, rfl, rfl, rfl, h1, r1⟩ := trodAll_cons r0
  obtain ⟨rfl, rfl, rfl⟩ := trodAll_nil r1
  subst hargs
  obtain ⟨x0, rfl, rfl, rfl, g0⟩ := Go.ChangeMaps.open_string Try.underlying9 (hval 0 9 v0 rfl rfl) h0
  obtain ⟨x1, rfl, rfl, rfl, g1⟩ := Go.ChangeMaps.open_string Try.underlying9 (hval 1 9 v1 rfl rfl) h1
  exact (lexjoins_walk x0 x1 W (Mx.of hsh))
end Go.Proofs.Ytcckifllammpbaa
