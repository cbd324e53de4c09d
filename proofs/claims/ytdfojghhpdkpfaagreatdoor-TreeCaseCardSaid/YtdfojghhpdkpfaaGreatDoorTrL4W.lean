/-
  TreeCase over its walk.
-/
import Derived.Test.YtdfojghhpdkpfaaGreatDoorC1
import Derived.Test.YtdfojghhpdkpfaaGreatDoorB2
import Derived.Test.YtdfojghhpdkpfaaGreatDoorB1
import Derived.Test.YtdfojghhpdkpfaaGreatDoorA9
import Derived.Test.YtdfojghhpdkpfaaGreatDoorA8
import Derived.Test.YtdfojghhpdkpfaaGreatDoorA7
import Derived.Test.YtdfojghhpdkpfaaGreatDoorA6
import Derived.Test.YtdfojghhpdkpfaaGreatDoorA5
import Derived.Test.YtdfojghhpdkpfaaGreatDoorA4
import Derived.Test.YtdfojghhpdkpfaaGreatDoorA3
import Derived.Test.YtdfojghhpdkpfaaGreatDoorA2
import Derived.Test.YtdfojghhpdkpfaaGreatDoorA12
import Derived.Test.YtdfojghhpdkpfaaGreatDoorA11
import Derived.Test.YtdfojghhpdkpfaaGreatDoorA10
import Derived.Test.YtdfojghhpdkpfaaGreatDoorA1
import Derived.Test.YtdfojghhpdkpfaaGreatDoorD1
import Derived.Test.YtdfojghhpdkpfaaGreatDoorTrL1W
set_option linter.unusedSimpArgs false
set_option linter.unusedVariables false
namespace Go.Proofs.YtdfojghhpdkpfaaGreatDoor
open Go.RowKit Go.ChangeShapes Go.WideShapes Go.ChangeAt
set_option maxRecDepth 100000 in
theorem open_bools {H : Type} {enc : TypeId × Value → H} {W : World} {base : Nat} {v : Value} {d : DataW H} {ps : List MemPlace} (hval : Value.okWide Tryz.prog W .any base 50 v) (h : DataW.Trod enc Tryz.prog W 0 (fun _ => true) true 50 v d ps) : ∃ l, LsR bCs 1 bOk W (fun _ => True) v l := by
  obtain ⟨a0, len0, cap0, rfl⟩ := okWide_slice Tryz.underlying50 hval
  obtain ⟨fuel, hfu⟩ := h
  obtain ⟨l, hl, -⟩ := ls_opens (cs := bCs) (n := 1) (ok := bOk) (Q := fun _ => True) (by omega) bCs_len Tryz.underlying50 (by kernel_rfl) (fun m hm ws y hy => by
    obtain ⟨b, hb⟩ := cO.opens hy
    have hb : ws = [.bool b] := hb
    exact ⟨(), b, hb, trivial, trivial⟩) hfu
  exact ⟨l, LsR.mono bK (by omega) hl fun _ _ _ => trivial⟩
set_option maxRecDepth 100000 in
theorem treeCase_law {H : Type} {enc : TypeId × Value → H} : LawWalkC Tryz.prog 8 Tryz.f8 Rows.treeCaseRow.laid H enc := by
  intro W base args ds ps hval hA hsh hL
  have hE := envT_of hsh hL
  rw [Tryz.params8] at hval
  have hA : DataW.TrodAll enc Tryz.prog W 0 (fun _ => true) true [25, 50] args ds ps := hA
  obtain ⟨v0, vs0, d0, ds0, p0, q0, hargs, rfl, rfl, h0, r0⟩ := trodAll_cons hA
  obtain ⟨v1, vs1, d1, ds1, p1, q1, rfl, rfl, rfl, h1, r1⟩ := trodAll_cons r0
  obtain ⟨rfl, rfl, rfl⟩ := trodAll_nil r1
  subst hargs
  obtain ⟨u, l, rfl, hl, hi⟩ := open_lot (base := 0) h0
  obtain ⟨bs, hb⟩ := open_bools (hval 1 50 v1 rfl rfl) h1
  exact case_walk l u v1 bs W hi hl hb hE
end Go.Proofs.YtdfojghhpdkpfaaGreatDoor
