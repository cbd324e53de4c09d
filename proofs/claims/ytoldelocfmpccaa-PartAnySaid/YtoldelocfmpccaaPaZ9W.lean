/-
 PartAny: a part that may be, and a command: both sides agree.
-/
import Derived.Test.YtoldelocfmpccaaY15
set_option linter.unusedSimpArgs false
set_option linter.unusedVariables false
namespace Go.Proofs.Ytoldelocfmpccaa
open Go.RowKit Go.ChangeShapes Go.WideShapes Go.ChangeAt
set_option maxRecDepth 100000 in
theorem partAny_law {H : Type} {enc : TypeId × Value → H} : LawWalk Try.prog 12 Try.f12 H enc := by
 intro W base args ds ps hval hA;rw [Try.params12] at hval;have hA : DataW.TrodAll enc Try.prog W 0 (fun _ => true) true [77, 81, 4, 26] args ds ps := hA;obtain ⟨v0, vs0, d0, ds0, p0, q0, hargs, rfl, rfl, h0, r0⟩ := trodAll_cons hA;obtain ⟨v1, vs1, d1, ds1, p1, q1, rfl, rfl, rfl, h1, r1⟩ := trodAll_cons r0;obtain ⟨v2, vs2, d2, ds2, p2, q2, rfl, rfl, rfl, h2, r2⟩ := trodAll_cons r1;obtain ⟨v3, vs3, d3, ds3, p3, q3, rfl, rfl, rfl, h3, r3⟩ := trodAll_cons r2;obtain ⟨rfl, rfl, rfl⟩ := trodAll_nil r3;subst hargs;obtain ⟨x0, vc, vr, vd, rfl, k0, l0⟩ := open_part (hval 0 77 v0 rfl rfl) h0;obtain ⟨x1, vsp1, vwr1, rfl, ks1, kw1, kl1⟩ := open_cmd (hval 1 81 v1 rfl rfl) h1;obtain ⟨x2, rfl, rfl, rfl⟩ := open_bool Try.underlying4 (hval 2 4 v2 rfl rfl) h2;obtain ⟨x3, rfl⟩ := open_try (hval 3 26 v3 rfl rfl) h3;exact any_walk vc vr vd vsp1 vwr1 x0 x1 x2 x3 W k0 l0 ks1 kw1 kl1
end Go.Proofs.Ytoldelocfmpccaa
