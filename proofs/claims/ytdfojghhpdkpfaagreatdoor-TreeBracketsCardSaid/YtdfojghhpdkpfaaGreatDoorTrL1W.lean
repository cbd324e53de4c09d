/-
  What a tree row's condition gives; TreeDeep over its walk.
-/
import Derived.Test.YtdfojghhpdkpfaaGreatDoorA12
set_option linter.unusedSimpArgs false
set_option linter.unusedVariables false
namespace Go.Proofs.YtdfojghhpdkpfaaGreatDoor
open Go.RowKit Go.ChangeShapes Go.WideShapes Go.ChangeAt
theorem envT_of {W : World} (hsh : W.ShapedOpen Tryz.prog) (h : laidMet Tryz.prog Rows.treeDeepRow.laid W) : EnvT W := by
  have hm : ("internal/strconv.uint64pow10", (Rows.laid_internal_strconv_uint64pow10 : DataW Unit)) ∈ Rows.treeDeepRow.laid := List.Mem.tail _ (List.Mem.tail _ (List.Mem.head _))
  have e : (Rows.laid_internal_strconv_uint64pow10 : DataW Unit) = Lib.tabData .u64 Lib.pow10Tab := by kernel_rfl
  rw [e] at hm
  exact ⟨tabIs_of_mem (t := 145) (e := 101) (n := 20) pow_at (by kernel_rfl) Tryz.underlying145 Tryz.underlying101 (by kernel_rfl) (by kernel_rfl) h hm, Tryz.laysM219.s1_3 W hsh⟩
set_option maxRecDepth 100000 in
theorem treeDeep_law {H : Type} {enc : TypeId × Value → H} : LawWalkC Tryz.prog 3 Tryz.f3 Rows.treeDeepRow.laid H enc := by
  intro W base args ds ps hval hA hsh hL
  have hE := envT_of hsh hL
  rw [Tryz.params3] at hval
  have hA : DataW.TrodAll enc Tryz.prog W 0 (fun _ => true) true [3, 3] args ds ps := hA
  obtain ⟨v0, vs0, d0, ds0, p0, q0, hargs, rfl, rfl, h0, r0⟩ := trodAll_cons hA
  obtain ⟨v1, vs1, d1, ds1, p1, q1, rfl, rfl, rfl, h1, r1⟩ := trodAll_cons r0
  obtain ⟨rfl, rfl, rfl⟩ := trodAll_nil r1
  subst hargs
  obtain ⟨x0, rfl, rfl, rfl, g0⟩ := open_int Tryz.underlying3 (hval 0 3 v0 rfl rfl) h0
  obtain ⟨x1, rfl, rfl, rfl, g1⟩ := open_int Tryz.underlying3 (hval 1 3 v1 rfl rfl) h1
  exact deep_walk x0 x1 W (i64_of_wf g0) (i64_of_wf g1) hE
end Go.Proofs.YtdfojghhpdkpfaaGreatDoor
