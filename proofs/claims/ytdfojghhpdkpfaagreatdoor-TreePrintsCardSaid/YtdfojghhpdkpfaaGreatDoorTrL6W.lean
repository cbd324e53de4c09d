/-
 TreePrints over its walk.
-/
import Derived.Test.YtdfojghhpdkpfaaGreatDoorG14
set_option linter.unusedSimpArgs false
set_option linter.unusedVariables false
namespace Go.Proofs.YtdfojghhpdkpfaaGreatDoor
open Go.RowKit Go.ChangeShapes Go.WideShapes Go.ChangeAt
set_option maxRecDepth 100000 in
theorem treePrints_law {H : Type} {enc : TypeId × Value → H} : LawWalkC Tryz.prog 5 Tryz.f5 Rows.treePrintsRow.laid H enc := by
 intro W base args ds ps hval hA hsh hL;have hE := envP_of hsh hL;rw [Tryz.params5] at hval;have hA : DataW.TrodAll enc Tryz.prog W 0 (fun _ => true) true [25, 25] args ds ps := hA;obtain ⟨v0, vs0, d0, ds0, p0, q0, hargs, rfl, rfl, h0, r0⟩ := trodAll_cons hA;obtain ⟨v1, vs1, d1, ds1, p1, q1, rfl, rfl, rfl, h1, r1⟩ := trodAll_cons r0;obtain ⟨rfl, rfl, rfl⟩ := trodAll_nil r1;subst hargs;obtain ⟨u, l, rfl, hl, hi⟩ := open_lot (base := 0) h0;obtain ⟨u', m, rfl, hm, -⟩ := open_lot (base := 0) h1;exact prints_walk l m u u' W hi hl hm hE
end Go.Proofs.YtdfojghhpdkpfaaGreatDoor
