/-
  WalGoes as a law: its walk over the arguments.
-/
import Derived.Test.YtpjinngngbifoaaWal1
set_option linter.unusedSimpArgs false
set_option linter.unusedVariables false
namespace Go.Proofs.Ytpjinngngbifoaa
open Go.RowKit Go.ChangeShapes Go.WideShapes Go.ChangeAt
set_option maxRecDepth 100000 in
theorem walGoes_law {H : Type} {enc : TypeId × Value → H} : LawWalk Try.prog 6 Try.f6 H enc := by
  intro W base args ds ps hval hA
  rw [Try.params6] at hval
  have hA : DataW.TrodAll enc Try.prog W 0 (fun _ => true) true [22, 55] args ds ps := hA
  obtain ⟨v0, vs0, d0, ds0, p0, q0, hargs, rfl, rfl, h0, r0⟩ := trodAll_cons hA
  obtain ⟨v1, vs1, d1, ds1, p1, q1, rfl, rfl, rfl, h1, r1⟩ := trodAll_cons r0
  obtain ⟨rfl, rfl, rfl⟩ := trodAll_nil r1
  subst hargs
  obtain ⟨x0, g0⟩ := open_bytesl (hval 0 22 v0 rfl rfl) h0
  obtain ⟨x1, g1⟩ := open_bools (hval 1 55 v1 rfl rfl) h1
  exact walgoes_walk _ _ x0 x1 W g0 g1
end Go.Proofs.Ytpjinngngbifoaa
