/-
  WalLasts as a law: its walk over the arguments.
-/
import Derived.Test.YtpjinngngbifoaaWal8
set_option linter.unusedSimpArgs false
set_option linter.unusedVariables false
namespace Go.Proofs.Ytpjinngngbifoaa
open Go.RowKit Go.ChangeShapes Go.WideShapes Go.ChangeAt
set_option maxRecDepth 100000 in
theorem walLasts_law {H : Type} {enc : TypeId × Value → H} : LawWalk Try.prog 5 Try.f5 H enc := by
  intro W base args ds ps hval hA
  rw [Try.params5] at hval
  have hA : DataW.TrodAll enc Try.prog W 0 (fun _ => true) true [47, 3, 48, 3, 48] args ds ps := hA
  obtain ⟨v0, vs0, d0, ds0, p0, q0, hargs, rfl, rfl, h0, r0⟩ := trodAll_cons hA
  obtain ⟨v1, vs1, d1, ds1, p1, q1, rfl, rfl, rfl, h1, r1⟩ := trodAll_cons r0
  obtain ⟨v2, vs2, d2, ds2, p2, q2, rfl, rfl, rfl, h2, r2⟩ := trodAll_cons r1
  obtain ⟨v3, vs3, d3, ds3, p3, q3, rfl, rfl, rfl, h3, r3⟩ := trodAll_cons r2
  obtain ⟨v4, vs4, d4, ds4, p4, q4, rfl, rfl, rfl, h4, r4⟩ := trodAll_cons r3
  obtain ⟨rfl, rfl, rfl⟩ := trodAll_nil r4
  subst hargs
  obtain ⟨x0, g0⟩ := open_opsw (hval 0 47 v0 rfl rfl) h0
  obtain ⟨x1, rfl, rfl, rfl, g1⟩ := open_int Try.underlying3 (hval 1 3 v1 rfl rfl) h1
  obtain ⟨x2, g2⟩ := open_intsl (hval 2 48 v2 rfl rfl) h2
  obtain ⟨x3, rfl, rfl, rfl, g3⟩ := open_int Try.underlying3 (hval 3 3 v3 rfl rfl) h3
  obtain ⟨x4, g4⟩ := open_intsl (hval 4 48 v4 rfl rfl) h4
  exact wallasts_walk _ _ _ _ _ x0 x2 x4 W g0 g2 g4 (i64_of_wf g1) (i64_of_wf g3)
end Go.Proofs.Ytpjinngngbifoaa
