/-
  WalAll as a law: its walk over the arguments.
-/
import Derived.Test.YtpjinngngbifoaaU1
import Derived.Test.YtpjinngngbifoaaU2
import Derived.Test.YtpjinngngbifoaaU3
import Derived.Test.YtpjinngngbifoaaU4
import Derived.Test.YtpjinngngbifoaaU5
import Derived.Test.YtpjinngngbifoaaU6
import Derived.Test.YtpjinngngbifoaaU7
import Derived.Test.YtpjinngngbifoaaU8
import Derived.Test.YtpjinngngbifoaaU9
import Derived.Test.YtpjinngngbifoaaU10
import Derived.Test.YtpjinngngbifoaaU11
import Derived.Test.YtpjinngngbifoaaU12
import Derived.Test.YtpjinngngbifoaaU13
import Derived.Test.YtpjinngngbifoaaU14
import Derived.Test.YtpjinngngbifoaaU15
import Derived.Test.YtpjinngngbifoaaU16
import Derived.Test.YtpjinngngbifoaaU17
import Derived.Test.YtpjinngngbifoaaU18
import Derived.Test.YtpjinngngbifoaaU19
import Derived.Test.YtpjinngngbifoaaU20
import Derived.Test.YtpjinngngbifoaaU21
import Derived.Test.YtpjinngngbifoaaU22
import Derived.Test.YtpjinngngbifoaaU23
import Derived.Test.YtpjinngngbifoaaU24
import Derived.Test.YtpjinngngbifoaaU25
import Derived.Test.YtpjinngngbifoaaU26
import Derived.Test.YtpjinngngbifoaaU27
import Derived.Test.YtpjinngngbifoaaU28
import Derived.Test.YtpjinngngbifoaaU29
import Derived.Test.YtpjinngngbifoaaU30
import Derived.Test.YtpjinngngbifoaaU31
import Derived.Test.YtpjinngngbifoaaU32
import Derived.Test.YtpjinngngbifoaaU33
import Derived.Test.YtpjinngngbifoaaU34
import Derived.Test.YtpjinngngbifoaaU35
import Derived.Test.YtpjinngngbifoaaU36
import Derived.Test.YtpjinngngbifoaaU37
import Derived.Test.YtpjinngngbifoaaU38
import Derived.Test.YtpjinngngbifoaaU39
set_option linter.unusedSimpArgs false
set_option linter.unusedVariables false
namespace Go.Proofs.Ytpjinngngbifoaa
open Go.RowKit Go.ChangeShapes Go.WideShapes Go.ChangeAt
set_option maxRecDepth 100000 in
theorem walAll_law {H : Type} {enc : TypeId × Value → H} : LawWalk Try.prog 7 Try.f7 H enc := by
  intro W base args ds ps hval hA
  rw [Try.params7] at hval
  have hA : DataW.TrodAll enc Try.prog W 0 (fun _ => true) true [47] args ds ps := hA
  obtain ⟨v0, vs0, d0, ds0, p0, q0, hargs, rfl, rfl, h0, r0⟩ := trodAll_cons hA
  obtain ⟨rfl, rfl, rfl⟩ := trodAll_nil r0
  subst hargs
  obtain ⟨x0, g0⟩ := open_opsw (hval 0 47 v0 rfl rfl) h0
  exact walall_walk _ x0 W g0
end Go.Proofs.Ytpjinngngbifoaa
