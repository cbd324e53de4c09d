/-
  ExprValues, proved: for every input the law returns true, and each argument reads afterwards as it read before. No condition.
-/
import Derived.Test.YtakbikibahhepaaKExprValues
import Derived.Test.YtakbikibahhepaaExZ2
import Derived.Test.YtakbikibahhepaaMvPO
namespace Go.Proofs.Ytakbikibahhepaa
open Go.RowKit Go.ChangeShapes Go.WideShapes Go.ChangeAt
theorem exprValues_named : Try.prog.funcNamed Rows.exprValuesRow.func = some 4 := by kernel_rfl
theorem exprValues_lifted (os : Os) (started : os.Started) (H : Type) (enc : TypeId × Value → H) :
    ReturnsInHanded {} Try.checked os 4 .any (Rows.exprValuesSpec.pre6 enc Try.prog Try.f4 Rows.exprValuesRow.domain false) (Rows.exprValuesSpec.post enc Try.prog Try.f4 false true false false) :=
  law_lift (C := Try.checked) 4 Try.f4 Rows.exprValuesSpec started P_own P_laid (by as_aux_lemma => kernel_rfl) Try.func4 4 rfl Try.underlying4 rfl
    (fun ds h => by have h : ds.length = 2 := h; match ds, h with | [_, _], _ => rfl) (by as_aux_lemma => kernel_rfl)
    (ChangeSpec.witness6 (enc := enc) (C := Try.checked) false ⟨#[], #[.agg #[.int .i64 0, .string ⟨#[]⟩, .int .i64 0, .int .i64 0, .string ⟨#[]⟩, .slice none 0 0], .slice none 0 0], []⟩ 8 (by as_aux_lemma => kernel_rfl) (by as_aux_lemma => kernel_rfl) (by as_aux_lemma => kernel_rfl) (by as_aux_lemma => kernel_rfl) (by as_aux_lemma => kernel_rfl)) exprValues_law
theorem exprValues_holds : Rows.ExprValuesSaid :=
  OpenClaim.holds_of_wide 4 Try.f4 rfl rfl rfl rfl rfl rfl rfl ⟨rfl, rfl, rfl, rfl, rfl⟩ rfl rfl rfl rfl rfl exprValues_named Try.func4 exprValues.closed
    (of_decide_eq_true (by as_aux_lemma => kernel_rfl)) (by unfold Func.isWrapper; rw [if_neg (of_decide_eq_false (by as_aux_lemma => kernel_rfl))]; exact ⟨rfl, rfl⟩)
    (fun os started H enc _ => exprValues_lifted os started H enc)
#print axioms exprValues_holds
end Go.Proofs.Ytakbikibahhepaa
