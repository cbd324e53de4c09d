/-
  MvccPast, proved: for every input the law returns true, and each argument reads afterwards as it read before. No condition.
-/
import Derived.Test.YtoldelocfmpccaaKMvccPast
import Derived.Test.YtoldelocfmpccaaMvZ3W
import Derived.Test.YtoldelocfmpccaaMvPO
namespace Go.Proofs.Ytoldelocfmpccaa
open Go.RowKit Go.ChangeShapes Go.WideShapes Go.ChangeAt
theorem mvccPast_named : Try.prog.funcNamed Rows.mvccPastRow.func = some 3 := by kernel_rfl
theorem mvccPast_lifted (os : Os) (started : os.Started) (H : Type) (enc : TypeId × Value → H) :
    ReturnsInHanded {} Try.checked os 3 .any (Rows.mvccPastSpec.pre6 enc Try.prog Try.f3 Rows.mvccPastRow.domain false) (Rows.mvccPastSpec.post enc Try.prog Try.f3 false true false false) :=
  law_lift (C := Try.checked) 3 Try.f3 Rows.mvccPastSpec started P_own P_laid (by as_aux_lemma => kernel_rfl) Try.func3 4 rfl Try.underlying4 rfl
    (fun ds h => by have h : ds.length = 5 := h; match ds, h with | [_, _, _, _, _], _ => rfl) (by as_aux_lemma => kernel_rfl)
    (ChangeSpec.witness6 (enc := enc) (C := Try.checked) false ⟨#[], #[.slice none 0 0, .agg #[.string ⟨#[]⟩, .bool false, .string ⟨#[]⟩], .agg #[.int .i64 0, .int .i64 0, .int .i64 0, .int .i64 0, .int .i64 0, .int .i64 0, .int .i64 0, .bool false, .string ⟨#[]⟩], .bool false, .agg #[.int .i64 0, .int .i64 0]], []⟩ 8 (by as_aux_lemma => kernel_rfl) (by as_aux_lemma => kernel_rfl) (by as_aux_lemma => kernel_rfl) (by as_aux_lemma => kernel_rfl) (by as_aux_lemma => kernel_rfl)) mvccPast_law
theorem mvccPast_holds : Rows.MvccPastSaid :=
  OpenClaim.holds_of_wide 3 Try.f3 rfl rfl rfl rfl rfl rfl rfl ⟨rfl, rfl, rfl, rfl, rfl⟩ rfl rfl rfl rfl rfl mvccPast_named Try.func3 mvccPast.closed
    (of_decide_eq_true (by as_aux_lemma => kernel_rfl)) (by unfold Func.isWrapper; rw [if_neg (of_decide_eq_false (by as_aux_lemma => kernel_rfl))]; exact ⟨rfl, rfl⟩)
    (fun os started H enc _ => mvccPast_lifted os started H enc)
#print axioms mvccPast_holds
end Go.Proofs.Ytoldelocfmpccaa
