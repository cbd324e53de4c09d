/-
 PartAll: for all commands, both sides turn the same, and what was there is as it was.
-/
import Derived.Test.YtoldelocfmpccaaX16
set_option linter.unusedSimpArgs false
set_option linter.unusedVariables false
namespace Go.Proofs.Ytoldelocfmpccaa
open Go.RowKit Go.ChangeShapes Go.WideShapes Go.ChangeAt
theorem Vo : Try.prog.cellsOf 4 = 1 := by kernel_rfl
set_option maxRecDepth 100000 in
theorem VI {H : Type} {enc : TypeId × Value → H} {W : World} {base : Nat} {v : Value} {d : DataW H} {ps : List MemPlace} (hval : Value.okWide Try.prog W .any base 73 v)
  (h : DataW.Trod enc Try.prog W 0 (fun _ => true) true 73 v d ps) : ∃ l, Ku W (fun k => k < W.heap.size) v l := by
 obtain ⟨a0, len0, cap0, rfl⟩ := okWide_slice Try.underlying73 hval;obtain ⟨fuel, hf⟩ := h;obtain ⟨v, l, hv, hby⟩ := Ys.opens (C := cO) Try.underlying73 (by rw [Vo]; omega) hf;simp [Value.cells] at hv;subst hv;exact ⟨l, hby.row (fun _ => rfl) (by omega) Vo fun _ _ h => h⟩
set_option maxRecDepth 100000 in
theorem partAll_law {H : Type} {enc : TypeId × Value → H} : LawWalk Try.prog 11 Try.f11 H enc := by
 intro W base args ds ps hval hA;rw [Try.params11] at hval;have hA : DataW.TrodAll enc Try.prog W 0 (fun _ => true) true [72, 73] args ds ps := hA;obtain ⟨v0, vs0, d0, ds0, p0, q0, hargs, rfl, rfl, h0, r0⟩ := trodAll_cons hA;obtain ⟨v1, vs1, d1, ds1, p1, q1, rfl, rfl, rfl, h1, r1⟩ := trodAll_cons r0;obtain ⟨rfl, rfl, rfl⟩ := trodAll_nil r1;subst hargs;obtain ⟨x0, g0⟩ := Wy (hval 0 72 v0 rfl rfl) h0;obtain ⟨x1, g1⟩ := VI (hval 1 73 v1 rfl rfl) h1;exact Qay v0 v1 x0 x1 W g0 g1
end Go.Proofs.Ytoldelocfmpccaa
