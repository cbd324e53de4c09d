/-
  ExprSums, proved: for every input the law returns true, and each argument reads afterwards as it read before. No condition.
-/
import Derived.Test.YtakbikibahhepaaKExprSums
import Derived.Test.YtakbikibahhepaaExZ5
import Derived.Test.YtakbikibahhepaaMvPO
namespace Go.Proofs.Ytakbikibahhepaa
open Go.RowKit Go.ChangeShapes Go.WideShapes Go.ChangeAt
theorem exprSums_named : Try.prog.funcNamed Rows.exprSumsRow.func = some 7 := by kernel_rfl
theorem exprSums_lifted (os : Os) (started : os.Started) (H : Type) (enc : TypeId × Value → H) :
    ReturnsInHanded {} Try.checked os 7 .any (Rows.exprSumsSpec.pre6 enc Try.prog Try.f7 Rows.exprSumsRow.domain false) (Rows.exprSumsSpec.post enc Try.prog Try.f7 false true false false) :=
  law_lift (C := Try.checked) 7 Try.f7 Rows.exprSumsSpec started P_own P_laid (by as_aux_lemma => kernel_rfl) Try.func7 4 rfl Try.underlying4 rfl
    (fun ds h => by have h : ds.length = 2 := h; match ds, h with | [_, _], _ => rfl) (by as_aux_lemma => kernel_rfl)
    (ChangeSpec.witness6 (enc := enc) (C := Try.checked) false ⟨#[], #[.int .i64 0, .int .i64 0], []⟩ 8 (by as_aux_lemma => kernel_rfl) (by as_aux_lemma => kernel_rfl) (by as_aux_lemma => kernel_rfl) (by as_aux_lemma => kernel_rfl) (by as_aux_lemma => kernel_rfl)) exprSums_law
theorem exprSums_holds : Rows.ExprSumsSaid :=
  OpenClaim.holds_of_wide 7 Try.f7 rfl rfl rfl rfl rfl rfl rfl ⟨rfl, rfl, rfl, rfl, rfl⟩ rfl rfl rfl rfl rfl exprSums_named Try.func7 exprSums.closed
    (of_decide_eq_true (by as_aux_lemma => kernel_rfl)) (by unfold Func.isWrapper; rw [if_neg (of_decide_eq_false (by as_aux_lemma => kernel_rfl))]; exact ⟨rfl, rfl⟩)
    (fun os started H enc _ => exprSums_lifted os started H enc)
#print axioms exprSums_holds
end Go.Proofs.Ytakbikibahhepaa
