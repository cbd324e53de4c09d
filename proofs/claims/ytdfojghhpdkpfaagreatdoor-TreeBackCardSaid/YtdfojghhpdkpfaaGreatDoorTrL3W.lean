/-
  TreeBack over its walk.
-/
import Derived.Test.YtdfojghhpdkpfaaGreatDoorB2
import Derived.Test.YtdfojghhpdkpfaaGreatDoorB1
import Derived.Test.YtdfojghhpdkpfaaGreatDoorA9
import Derived.Test.YtdfojghhpdkpfaaGreatDoorA8
import Derived.Test.YtdfojghhpdkpfaaGreatDoorA7
import Derived.Test.YtdfojghhpdkpfaaGreatDoorA6
import Derived.Test.YtdfojghhpdkpfaaGreatDoorA5
import Derived.Test.YtdfojghhpdkpfaaGreatDoorA4
import Derived.Test.YtdfojghhpdkpfaaGreatDoorA3
import Derived.Test.YtdfojghhpdkpfaaGreatDoorA2
import Derived.Test.YtdfojghhpdkpfaaGreatDoorA12
import Derived.Test.YtdfojghhpdkpfaaGreatDoorA11
import Derived.Test.YtdfojghhpdkpfaaGreatDoorA10
import Derived.Test.YtdfojghhpdkpfaaGreatDoorA1
import Derived.Test.YtdfojghhpdkpfaaGreatDoorC1
import Derived.Test.YtdfojghhpdkpfaaGreatDoorTrL1W
set_option linter.unusedSimpArgs false
set_option linter.unusedVariables false
namespace Go.Proofs.YtdfojghhpdkpfaaGreatDoor
open Go.RowKit Go.ChangeShapes Go.WideShapes Go.ChangeAt
set_option maxRecDepth 100000 in
theorem treeBack_law {H : Type} {enc : TypeId × Value → H} : LawWalkC Tryz.prog 6 Tryz.f6 Rows.treeBackRow.laid H enc := by
  intro W base args ds ps hval hA hsh hL
  have hE := envT_of hsh hL
  rw [Tryz.params6] at hval
  have hA : DataW.TrodAll enc Tryz.prog W 0 (fun _ => true) true [25] args ds ps := hA
  obtain ⟨v0, vs0, d0, ds0, p0, q0, hargs, rfl, rfl, h0, r0⟩ := trodAll_cons hA
  obtain ⟨rfl, rfl, rfl⟩ := trodAll_nil r0
  subst hargs
  obtain ⟨u, l, rfl, hl, hi⟩ := open_lot (base := 0) h0
  exact back_walk l u W hi hl hE fun w1 h1 _ => light_any l u w1 h1
end Go.Proofs.YtdfojghhpdkpfaaGreatDoor
