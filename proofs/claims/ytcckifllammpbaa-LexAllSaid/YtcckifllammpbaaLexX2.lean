/-
  LexAll: for every text, lex.Lex's tokens, or its error, are the document's.
-/
import Derived.Test.YtcckifllammpbaaLexI
set_option linter.unusedSimpArgs false
set_option linter.unusedVariables false
namespace Go.Proofs.Ytcckifllammpbaa
open Go.RowKit Go.ChangeShapes Go.WideShapes Go.ChangeAt
set_option maxRecDepth 100000 in
theorem lexAll_law {H : Type} {enc : TypeId × Value → H} : LawWalkS Try.prog 3 Try.f3 H enc := by
  intro W base args ds ps hval hA hsh
  rw [Try.params3] at hval
  have hA : DataW.TrodAll enc Try.prog W 0 (fun _ => true) true [9] args ds ps := hA
  obtain ⟨v0, vs0, d0, ds0, p0, q0, hargs, rfl, rfl, h0, r0⟩ := trodAll_cons hA
  obtain ⟨rfl, rfl, rfl⟩ := trodAll_nil r0
  subst hargs
  obtain ⟨x0, rfl, rfl, rfl, g0⟩ := Go.ChangeMaps.open_string Try.underlying9 (hval 0 9 v0 rfl rfl) h0
  exact (lexall_walk x0 W (Mx.of hsh))
end Go.Proofs.Ytcckifllammpbaa
