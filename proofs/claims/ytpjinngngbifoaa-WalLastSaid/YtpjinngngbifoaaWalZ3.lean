/-
  WalLast as a law: its walk over the arguments.
-/
import Derived.Test.YtpjinngngbifoaaWal5
set_option linter.unusedSimpArgs false
set_option linter.unusedVariables false
namespace Go.Proofs.Ytpjinngngbifoaa
open Go.RowKit Go.ChangeShapes Go.WideShapes Go.ChangeAt
set_option maxRecDepth 100000 in
theorem walLast_law {H : Type} {enc : TypeId × Value → H} : LawWalk Try.prog 4 Try.f4 H enc := by
  intro W base args ds ps hval hA
  rw [Try.params4] at hval
  have hA : DataW.TrodAll enc Try.prog W 0 (fun _ => true) true [5, 22, 4] args ds ps := hA
  obtain ⟨v0, vs0, d0, ds0, p0, q0, hargs, rfl, rfl, h0, r0⟩ := trodAll_cons hA
  obtain ⟨v1, vs1, d1, ds1, p1, q1, rfl, rfl, rfl, h1, r1⟩ := trodAll_cons r0
  obtain ⟨v2, vs2, d2, ds2, p2, q2, rfl, rfl, rfl, h2, r2⟩ := trodAll_cons r1
  obtain ⟨rfl, rfl, rfl⟩ := trodAll_nil r2
  subst hargs
  obtain ⟨x0, rfl, rfl, rfl, g0⟩ := open_int Try.underlying5 (hval 0 5 v0 rfl rfl) h0
  rw [u8_of_wf g0]
  obtain ⟨x1, g1⟩ := open_bytesl (hval 1 22 v1 rfl rfl) h1
  obtain ⟨x2, rfl, rfl, rfl⟩ := open_bool Try.underlying4 (hval 2 4 v2 rfl rfl) h2
  exact wallast_walk _ _ _ x1 W g1
end Go.Proofs.Ytpjinngngbifoaa
