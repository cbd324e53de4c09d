/-
  TreeBrackets over its walk.
-/
import Derived.Test.YtdfojghhpdkpfaaGreatDoorA9
import Derived.Test.YtdfojghhpdkpfaaGreatDoorA8
import Derived.Test.YtdfojghhpdkpfaaGreatDoorA7
import Derived.Test.YtdfojghhpdkpfaaGreatDoorA6
import Derived.Test.YtdfojghhpdkpfaaGreatDoorA5
import Derived.Test.YtdfojghhpdkpfaaGreatDoorA4
import Derived.Test.YtdfojghhpdkpfaaGreatDoorA3
import Derived.Test.YtdfojghhpdkpfaaGreatDoorA2
import Derived.Test.YtdfojghhpdkpfaaGreatDoorA12
import Derived.Test.YtdfojghhpdkpfaaGreatDoorA11
import Derived.Test.YtdfojghhpdkpfaaGreatDoorA10
import Derived.Test.YtdfojghhpdkpfaaGreatDoorA1
import Derived.Test.YtdfojghhpdkpfaaGreatDoorE1
import Derived.Test.YtdfojghhpdkpfaaGreatDoorE2
import Derived.Test.YtdfojghhpdkpfaaGreatDoorTrL1W
set_option linter.unusedSimpArgs false
set_option linter.unusedVariables false
namespace Go.Proofs.YtdfojghhpdkpfaaGreatDoor
open Go.RowKit Go.ChangeShapes Go.WideShapes Go.ChangeAt
theorem open_ex {H : Type} {enc : TypeId × Value → H} {W : World} {v : Value} {d : DataW H} {ps : List MemPlace} (h : DataW.Trod enc Tryz.prog W 0 (fun _ => true) true 34 v d ps) : ∃ u e, v = exV u e ∧ ExR W (fun _ => True) u e ∧ ExI e := by
  obtain ⟨fuel, hfu⟩ := h
  obtain ⟨u, e, hcs, hr, hi⟩ := ex_opens fuel _ _ hfu
  exact ⟨u, e, agg_of hcs (by simp [exCs]), hr.mono (fun _ _ _ => trivial), hi⟩
set_option maxRecDepth 100000 in
theorem treeBrackets_law {H : Type} {enc : TypeId × Value → H} : LawWalkC Tryz.prog 4 Tryz.f4 Rows.treeBracketsRow.laid H enc := by
  intro W base args ds ps hval hA hsh hL
  have hE := envT_of hsh hL
  rw [Tryz.params4] at hval
  have hA : DataW.TrodAll enc Tryz.prog W 0 (fun _ => true) true [34, 34, 34] args ds ps := hA
  obtain ⟨v0, vs0, d0, ds0, p0, q0, hargs, rfl, rfl, h0, r0⟩ := trodAll_cons hA
  obtain ⟨v1, vs1, d1, ds1, p1, q1, rfl, rfl, rfl, h1, r1⟩ := trodAll_cons r0
  obtain ⟨v2, vs2, d2, ds2, p2, q2, rfl, rfl, rfl, h2, r2⟩ := trodAll_cons r1
  obtain ⟨rfl, rfl, rfl⟩ := trodAll_nil r2
  subst hargs
  obtain ⟨ua, a, rfl, ha, ia⟩ := open_ex h0
  obtain ⟨ub, b, rfl, hb, ib⟩ := open_ex h1
  obtain ⟨uc, c, rfl, hc, ic⟩ := open_ex h2
  exact brackets_walk a b c ua ub uc W ia ib ic ha hb hc hE
end Go.Proofs.YtdfojghhpdkpfaaGreatDoor
