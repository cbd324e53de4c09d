/-
  WalNone as a law: its walk, without arguments.
-/
import Derived.Test.YtpjinngngbifoaaWal2
set_option linter.unusedSimpArgs false
set_option linter.unusedVariables false
namespace Go.Proofs.Ytpjinngngbifoaa
open Go.RowKit Go.ChangeShapes Go.WideShapes Go.ChangeAt
set_option maxRecDepth 100000 in
theorem walNone_law {H : Type} {enc : TypeId × Value → H} : LawWalk Try.prog 8 Try.f8 H enc := by
  intro W base args ds ps hval hA
  rw [Try.params8] at hval
  have hA : DataW.TrodAll enc Try.prog W 0 (fun _ => true) true [] args ds ps := hA
  obtain ⟨rfl, rfl, rfl⟩ := trodAll_nil hA
  exact walnone_walk W
end Go.Proofs.Ytpjinngngbifoaa
