/-
  MvccTurns, proved: for every input the law returns true, and each argument reads afterwards as it read before. No condition.
-/
import Derived.Test.YtoldelocfmpccaaKMvccTurns
import Derived.Test.YtoldelocfmpccaaMvZ1W
import Derived.Test.YtoldelocfmpccaaMvPO
namespace Go.Proofs.Ytoldelocfmpccaa
open Go.RowKit Go.ChangeShapes Go.WideShapes Go.ChangeAt
theorem mvccTurns_named : Try.prog.funcNamed Rows.mvccTurnsRow.func = some 4 := by kernel_rfl
theorem mvccTurns_lifted (os : Os) (started : os.Started) (H : Type) (enc : TypeId × Value → H) :
    ReturnsInHanded {} Try.checked os 4 .any (Rows.mvccTurnsSpec.pre6 enc Try.prog Try.f4 Rows.mvccTurnsRow.domain false) (Rows.mvccTurnsSpec.post enc Try.prog Try.f4 false true false false) :=
  law_lift (C := Try.checked) 4 Try.f4 Rows.mvccTurnsSpec started P_own P_laid (by as_aux_lemma => kernel_rfl) Try.func4 4 rfl Try.underlying4 rfl
    (fun ds h => by have h : ds.length = 5 := h; match ds, h with | [_, _, _, _, _], _ => rfl) (by as_aux_lemma => kernel_rfl)
    (ChangeSpec.witness6 (enc := enc) (C := Try.checked) false ⟨#[], #[.slice none 0 0, .agg #[.int .i64 0, .int .i64 0, .int .i64 0, .int .i64 0], .agg #[.int .i64 0, .int .i64 0, .int .i64 0, .int .i64 0], .bool false, .bool false], []⟩ 8 (by as_aux_lemma => kernel_rfl) (by as_aux_lemma => kernel_rfl) (by as_aux_lemma => kernel_rfl) (by as_aux_lemma => kernel_rfl) (by as_aux_lemma => kernel_rfl)) mvccTurns_law
theorem mvccTurns_holds : Rows.MvccTurnsSaid :=
  OpenClaim.holds_of_wide 4 Try.f4 rfl rfl rfl rfl rfl rfl rfl ⟨rfl, rfl, rfl, rfl, rfl⟩ rfl rfl rfl rfl rfl mvccTurns_named Try.func4 mvccTurns.closed
    (of_decide_eq_true (by as_aux_lemma => kernel_rfl)) (by unfold Func.isWrapper; rw [if_neg (of_decide_eq_false (by as_aux_lemma => kernel_rfl))]; exact ⟨rfl, rfl⟩)
    (fun os started H enc _ => mvccTurns_lifted os started H enc)
#print axioms mvccTurns_holds
end Go.Proofs.Ytoldelocfmpccaa
