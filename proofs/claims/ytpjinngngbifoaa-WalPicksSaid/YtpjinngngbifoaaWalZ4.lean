/-
  WalPicks as a law: its walk over the arguments.
-/
import Derived.Test.YtpjinngngbifoaaWal7
set_option linter.unusedSimpArgs false
set_option linter.unusedVariables false
namespace Go.Proofs.Ytpjinngngbifoaa
open Go.RowKit Go.ChangeShapes Go.WideShapes Go.ChangeAt
theorem u64_nonneg {n : Int} (h : (Lit.int .u64 n).wf = true) : 0 ≤ n := by
  simp [Lit.wf, IntKind.min, IntKind.max, IntKind.signed, IntKind.bits] at h
  omega
set_option maxRecDepth 100000 in
theorem walPicks_law {H : Type} {enc : TypeId × Value → H} : LawWalk Try.prog 3 Try.f3 H enc := by
  intro W base args ds ps hval hA
  rw [Try.params3] at hval
  have hA : DataW.TrodAll enc Try.prog W 0 (fun _ => true) true [22, 22, 23, 23, 24, 24] args ds ps := hA
  obtain ⟨v0, vs0, d0, ds0, p0, q0, hargs, rfl, rfl, h0, r0⟩ := trodAll_cons hA
  obtain ⟨v1, vs1, d1, ds1, p1, q1, rfl, rfl, rfl, h1, r1⟩ := trodAll_cons r0
  obtain ⟨v2, vs2, d2, ds2, p2, q2, rfl, rfl, rfl, h2, r2⟩ := trodAll_cons r1
  obtain ⟨v3, vs3, d3, ds3, p3, q3, rfl, rfl, rfl, h3, r3⟩ := trodAll_cons r2
  obtain ⟨v4, vs4, d4, ds4, p4, q4, rfl, rfl, rfl, h4, r4⟩ := trodAll_cons r3
  obtain ⟨v5, vs5, d5, ds5, p5, q5, rfl, rfl, rfl, h5, r5⟩ := trodAll_cons r4
  obtain ⟨rfl, rfl, rfl⟩ := trodAll_nil r5
  subst hargs
  obtain ⟨x0, g0⟩ := open_bytesl (hval 0 22 v0 rfl rfl) h0
  obtain ⟨x1, g1⟩ := open_bytesl (hval 1 22 v1 rfl rfl) h1
  obtain ⟨x2, rfl, rfl, rfl, g2⟩ := open_int Try.underlying23 (hval 2 23 v2 rfl rfl) h2
  obtain ⟨x3, rfl, rfl, rfl, g3⟩ := open_int Try.underlying23 (hval 3 23 v3 rfl rfl) h3
  obtain ⟨x4, g4⟩ := open_bytes (hval 4 24 v4 rfl rfl) h4
  obtain ⟨x5, g5⟩ := open_bytes (hval 5 24 v5 rfl rfl) h5
  exact walpicks_walk _ _ _ _ _ _ x0 x1 x4 x5 W g0 g1 (u64_nonneg g2) (u64_nonneg g3) g4 g5
end Go.Proofs.Ytpjinngngbifoaa
