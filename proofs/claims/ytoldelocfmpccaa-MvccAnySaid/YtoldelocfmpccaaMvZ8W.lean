/-
  MvccAny: what any cells that may be tell, and which may be.
-/
import Derived.Test.YtoldelocfmpccaaMvB8W
set_option linter.unusedSimpArgs false
set_option linter.unusedVariables false
namespace Go.Proofs.Ytoldelocfmpccaa
open Go.RowKit Go.ChangeShapes Go.WideShapes Go.ChangeAt
set_option maxRecDepth 100000 in
theorem mvccAny_law {H : Type} {enc : TypeId × Value → H} : LawWalk Try.prog 10 Try.f10 H enc := by
  intro W base args ds ps hval hA
  rw [Try.params10] at hval
  have hA : DataW.TrodAll enc Try.prog W 0 (fun _ => true) true [33, 9, 28, 53, 26, 3, 37] args ds ps := hA
  obtain ⟨v0, vs0, d0, ds0, p0, q0, hargs, rfl, rfl, h0, r0⟩ := trodAll_cons hA
  obtain ⟨v1, vs1, d1, ds1, p1, q1, rfl, rfl, rfl, h1, r1⟩ := trodAll_cons r0
  obtain ⟨v2, vs2, d2, ds2, p2, q2, rfl, rfl, rfl, h2, r2⟩ := trodAll_cons r1
  obtain ⟨v3, vs3, d3, ds3, p3, q3, rfl, rfl, rfl, h3, r3⟩ := trodAll_cons r2
  obtain ⟨v4, vs4, d4, ds4, p4, q4, rfl, rfl, rfl, h4, r4⟩ := trodAll_cons r3
  obtain ⟨v5, vs5, d5, ds5, p5, q5, rfl, rfl, rfl, h5, r5⟩ := trodAll_cons r4
  obtain ⟨v6, vs6, d6, ds6, p6, q6, rfl, rfl, rfl, h6, r6⟩ := trodAll_cons r5
  obtain ⟨rfl, rfl, rfl⟩ := trodAll_nil r6
  subst hargs
  obtain ⟨x0, g0, l0⟩ := open_cels (hval 0 33 v0 rfl rfl) h0
  obtain ⟨x1, rfl, rfl, rfl, g1⟩ := Go.ChangeMaps.open_string Try.underlying9 (hval 1 9 v1 rfl rfl) h1
  obtain ⟨x2, rfl⟩ := open_st (hval 2 28 v2 rfl rfl) h2
  obtain ⟨x3, y3, rfl, k3, m3⟩ := open_span (hval 3 53 v3 rfl rfl) h3
  obtain ⟨x4, rfl⟩ := open_try (hval 4 26 v4 rfl rfl) h4
  obtain ⟨x5, rfl, rfl, rfl, g5⟩ := open_int Try.underlying3 (hval 5 3 v5 rfl rfl) h5
  obtain ⟨x6, rfl, h6o⟩ := open_op8 (hval 6 37 v6 rfl rfl) h6
  exact any_walk v0 x0 (bl x1) x2 x3 y3 x4 x5 x6 W g0 l0 (by have := bl_len x1; unfold maxLen at g1; omega) h6o
end Go.Proofs.Ytoldelocfmpccaa
