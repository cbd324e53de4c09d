/-
  Two values held against each other by '=='.
-/
import Derived.Test.YtpbekhcogpkbpaaDoorVaA
import Derived.Laws.StructEq
set_option linter.unusedSimpArgs false
set_option linter.unusedVariables false
namespace Go.Proofs.YtpbekhcogpkbpaaDoor
open Go.RowKit

theorem val_agg (v : Val) : valV v = .agg #[.int .i64 v.kind, .int .i64 v.n, .string (str v.s)] := rfl
theorem str_toList (l : List UInt8) : (str l).toList = l := by rw [ByteArray.toList_eq]; rfl
theorem eqV (a b : Val) (w : World) : (binOp .eql 24 (.agg #[.int .i64 a.kind, .int .i64 a.n, .string (str a.s)]) (.agg #[.int .i64 b.kind, .int .i64 b.n, .string (str b.s)])).run Tryd.prog w = .ok (.bool (decide (a = b))) w := by
  have hg : Tryd.prog.stoodInHeld 24 = false := by kernel_rfl
  rw [run_eql_struct]
  simp [go_sem, hg, Tryd.underlying24, Tryd.underlying3, Tryd.underlying2, Tryd.underlying9]
  have he : (a = b) ↔ (a.kind = b.kind ∧ a.n = b.n ∧ a.s = b.s) := by
    constructor
    · intro h; subst h; exact ⟨rfl, rfl, rfl⟩
    · obtain ⟨x1, x2, x3⟩ := a
      obtain ⟨y1, y2, y3⟩ := b
      rintro ⟨h1, h2, h3⟩
      dsimp only at h1 h2 h3
      subst h1 h2 h3; rfl
  by_cases h1 : a.kind = b.kind
  · by_cases h2 : a.n = b.n
    · by_cases h3 : a.s = b.s
      · simp [h1, h2, h3, he]
      · simp [h1, h2, h3, he]
    · simp [h1, h2, he]
  · simp [h1, he]
end Go.Proofs.YtpbekhcogpkbpaaDoor
