/-
  ExprKinds, proved: for every input the law returns true, and each argument reads afterwards as it read before. No condition.
-/
import Derived.Test.YtakbikibahhepaaKExprKinds
import Derived.Test.YtakbikibahhepaaExZ7
import Derived.Test.YtakbikibahhepaaMvPO
namespace Go.Proofs.Ytakbikibahhepaa
open Go.RowKit Go.ChangeShapes Go.WideShapes Go.ChangeAt
theorem exprKinds_named : Try.prog.funcNamed Rows.exprKindsRow.func = some 9 := by kernel_rfl
theorem exprKinds_lifted (os : Os) (started : os.Started) (H : Type) (enc : TypeId × Value → H) :
    ReturnsInHanded {} Try.checked os 9 .any (Rows.exprKindsSpec.pre6 enc Try.prog Try.f9 Rows.exprKindsRow.domain false) (Rows.exprKindsSpec.post enc Try.prog Try.f9 false true false false) :=
  law_lift (C := Try.checked) 9 Try.f9 Rows.exprKindsSpec started P_own P_laid (by as_aux_lemma => kernel_rfl) Try.func9 4 rfl Try.underlying4 rfl
    (fun ds h => by have h : ds.length = 2 := h; match ds, h with | [_, _], _ => rfl) (by as_aux_lemma => kernel_rfl)
    (ChangeSpec.witness6 (enc := enc) (C := Try.checked) false ⟨#[], #[.agg #[.int .i64 0, .string ⟨#[]⟩, .int .i64 0, .int .i64 0, .string ⟨#[]⟩, .slice none 0 0], .slice none 0 0], []⟩ 8 (by as_aux_lemma => kernel_rfl) (by as_aux_lemma => kernel_rfl) (by as_aux_lemma => kernel_rfl) (by as_aux_lemma => kernel_rfl) (by as_aux_lemma => kernel_rfl)) exprKinds_law
theorem exprKinds_holds : Rows.ExprKindsSaid :=
  OpenClaim.holds_of_wide 9 Try.f9 rfl rfl rfl rfl rfl rfl rfl ⟨rfl, rfl, rfl, rfl, rfl⟩ rfl rfl rfl rfl rfl exprKinds_named Try.func9 exprKinds.closed
    (of_decide_eq_true (by as_aux_lemma => kernel_rfl)) (by unfold Func.isWrapper; rw [if_neg (of_decide_eq_false (by as_aux_lemma => kernel_rfl))]; exact ⟨rfl, rfl⟩)
    (fun os started H enc _ => exprKinds_lifted os started H enc)
#print axioms exprKinds_holds
end Go.Proofs.Ytakbikibahhepaa
