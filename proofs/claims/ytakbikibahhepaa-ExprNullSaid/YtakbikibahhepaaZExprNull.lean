/-
  ExprNull, proved: for every input the law returns true, and each argument reads afterwards as it read before. No condition.
-/
import Derived.Test.YtakbikibahhepaaKExprNull
import Derived.Test.YtakbikibahhepaaExZ6
import Derived.Test.YtakbikibahhepaaMvPO
namespace Go.Proofs.Ytakbikibahhepaa
open Go.RowKit Go.ChangeShapes Go.WideShapes Go.ChangeAt
theorem exprNull_named : Try.prog.funcNamed Rows.exprNullRow.func = some 8 := by kernel_rfl
theorem exprNull_lifted (os : Os) (started : os.Started) (H : Type) (enc : TypeId × Value → H) :
    ReturnsInHanded {} Try.checked os 8 .any (Rows.exprNullSpec.pre6 enc Try.prog Try.f8 Rows.exprNullRow.domain false) (Rows.exprNullSpec.post enc Try.prog Try.f8 false true false false) :=
  law_lift (C := Try.checked) 8 Try.f8 Rows.exprNullSpec started P_own P_laid (by as_aux_lemma => kernel_rfl) Try.func8 4 rfl Try.underlying4 rfl
    (fun ds h => by have h : ds.length = 3 := h; match ds, h with | [_, _, _], _ => rfl) (by as_aux_lemma => kernel_rfl)
    (ChangeSpec.witness6 (enc := enc) (C := Try.checked) false ⟨#[], #[.agg #[.int .i64 0, .string ⟨#[]⟩, .int .i64 0, .int .i64 0, .string ⟨#[]⟩, .slice none 0 0], .int .i64 0, .slice none 0 0], []⟩ 8 (by as_aux_lemma => kernel_rfl) (by as_aux_lemma => kernel_rfl) (by as_aux_lemma => kernel_rfl) (by as_aux_lemma => kernel_rfl) (by as_aux_lemma => kernel_rfl)) exprNull_law
theorem exprNull_holds : Rows.ExprNullSaid :=
  OpenClaim.holds_of_wide 8 Try.f8 rfl rfl rfl rfl rfl rfl rfl ⟨rfl, rfl, rfl, rfl, rfl⟩ rfl rfl rfl rfl rfl exprNull_named Try.func8 exprNull.closed
    (of_decide_eq_true (by as_aux_lemma => kernel_rfl)) (by unfold Func.isWrapper; rw [if_neg (of_decide_eq_false (by as_aux_lemma => kernel_rfl))]; exact ⟨rfl, rfl⟩)
    (fun os started H enc _ => exprNull_lifted os started H enc)
#print axioms exprNull_holds
end Go.Proofs.Ytakbikibahhepaa
