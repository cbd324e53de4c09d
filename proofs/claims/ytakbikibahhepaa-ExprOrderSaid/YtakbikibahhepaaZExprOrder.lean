/-
  ExprOrder, proved: for every input the law returns true, and each argument reads afterwards as it read before. No condition.
-/
import Derived.Test.YtakbikibahhepaaKExprOrder
import Derived.Test.YtakbikibahhepaaExZ4
import Derived.Test.YtakbikibahhepaaMvPO
namespace Go.Proofs.Ytakbikibahhepaa
open Go.RowKit Go.ChangeShapes Go.WideShapes Go.ChangeAt
theorem exprOrder_named : Try.prog.funcNamed Rows.exprOrderRow.func = some 6 := by kernel_rfl
theorem exprOrder_lifted (os : Os) (started : os.Started) (H : Type) (enc : TypeId × Value → H) :
    ReturnsInHanded {} Try.checked os 6 .any (Rows.exprOrderSpec.pre6 enc Try.prog Try.f6 Rows.exprOrderRow.domain false) (Rows.exprOrderSpec.post enc Try.prog Try.f6 false true false false) :=
  law_lift (C := Try.checked) 6 Try.f6 Rows.exprOrderSpec started P_own P_laid (by as_aux_lemma => kernel_rfl) Try.func6 4 rfl Try.underlying4 rfl
    (fun ds h => by have h : ds.length = 3 := h; match ds, h with | [_, _, _], _ => rfl) (by as_aux_lemma => kernel_rfl)
    (ChangeSpec.witness6 (enc := enc) (C := Try.checked) false ⟨#[], #[.agg #[.int .i64 0, .int .i64 0, .string ⟨#[]⟩], .agg #[.int .i64 0, .int .i64 0, .string ⟨#[]⟩], .slice none 0 0], []⟩ 8 (by as_aux_lemma => kernel_rfl) (by as_aux_lemma => kernel_rfl) (by as_aux_lemma => kernel_rfl) (by as_aux_lemma => kernel_rfl) (by as_aux_lemma => kernel_rfl)) exprOrder_law
theorem exprOrder_holds : Rows.ExprOrderSaid :=
  OpenClaim.holds_of_wide 6 Try.f6 rfl rfl rfl rfl rfl rfl rfl ⟨rfl, rfl, rfl, rfl, rfl⟩ rfl rfl rfl rfl rfl exprOrder_named Try.func6 exprOrder.closed
    (of_decide_eq_true (by as_aux_lemma => kernel_rfl)) (by unfold Func.isWrapper; rw [if_neg (of_decide_eq_false (by as_aux_lemma => kernel_rfl))]; exact ⟨rfl, rfl⟩)
    (fun os started H enc _ => exprOrder_lifted os started H enc)
#print axioms exprOrder_holds
end Go.Proofs.Ytakbikibahhepaa
