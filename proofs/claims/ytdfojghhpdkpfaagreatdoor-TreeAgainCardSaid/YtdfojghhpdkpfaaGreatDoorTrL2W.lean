/-
  TreeAgain over its walk.
-/
import Derived.Test.YtdfojghhpdkpfaaGreatDoorA9
import Derived.Test.YtdfojghhpdkpfaaGreatDoorA8
import Derived.Test.YtdfojghhpdkpfaaGreatDoorA7
import Derived.Test.YtdfojghhpdkpfaaGreatDoorA6
import Derived.Test.YtdfojghhpdkpfaaGreatDoorA5
import Derived.Test.YtdfojghhpdkpfaaGreatDoorA4
import Derived.Test.YtdfojghhpdkpfaaGreatDoorA3
import Derived.Test.YtdfojghhpdkpfaaGreatDoorA2
import Derived.Test.YtdfojghhpdkpfaaGreatDoorA12
import Derived.Test.YtdfojghhpdkpfaaGreatDoorA11
import Derived.Test.YtdfojghhpdkpfaaGreatDoorA10
import Derived.Test.YtdfojghhpdkpfaaGreatDoorA1
import Derived.Test.YtdfojghhpdkpfaaGreatDoorB1
import Derived.Test.YtdfojghhpdkpfaaGreatDoorB2
import Derived.Test.YtdfojghhpdkpfaaGreatDoorTrL1W
set_option linter.unusedSimpArgs false
set_option linter.unusedVariables false
namespace Go.Proofs.YtdfojghhpdkpfaaGreatDoor
open Go.RowKit Go.ChangeShapes Go.WideShapes Go.ChangeAt
set_option maxRecDepth 100000 in
theorem treeAgain_law {H : Type} {enc : TypeId × Value → H} : LawWalkC Tryz.prog 7 Tryz.f7 Rows.treeAgainRow.laid H enc := by
  intro W base args ds ps hval hA hsh hL
  have hE := envT_of hsh hL
  rw [Tryz.params7] at hval
  have hA : DataW.TrodAll enc Tryz.prog W 0 (fun _ => true) true [9] args ds ps := hA
  obtain ⟨v0, vs0, d0, ds0, p0, q0, hargs, rfl, rfl, h0, r0⟩ := trodAll_cons hA
  obtain ⟨rfl, rfl, rfl⟩ := trodAll_nil r0
  subst hargs
  obtain ⟨x0, rfl, rfl, rfl, g0⟩ := Go.ChangeMaps.open_string Tryz.underlying9 (hval 0 9 v0 rfl rfl) h0
  exact again_walk x0 W g0 hE
end Go.Proofs.YtdfojghhpdkpfaaGreatDoor
