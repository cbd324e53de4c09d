/-
  SumLines, proved: for every input the law returns true, and each argument reads afterwards as it read before. No condition.
-/
import Derived.Test.YtlnkhkkekfjebaaKSumLines
import Derived.Test.YtlnkhkkekfjebaaSumD
namespace Go.Proofs.Ytlnkhkkekfjebaa
open Go.RowKit Go.ChangeShapes Go.WideShapes Go.ChangeAt
theorem sumLines_named : Try.prog.funcNamed Rows.sumLinesRow.func = some 6 := by kernel_rfl
theorem sumLines_lifted (os : Os) (started : os.Started) (H : Type) (enc : TypeId × Value → H) :
    ReturnsInHanded {} Try.checked os 6 .any (Rows.sumLinesSpec.pre6 enc Try.prog Try.f6 Rows.sumLinesRow.domain false) (Rows.sumLinesSpec.post enc Try.prog Try.f6 false true false false) :=
  law_lift (C := Try.checked) 6 Try.f6 Rows.sumLinesSpec started P_own P_laid (by as_aux_lemma => kernel_rfl) Try.func6 4 rfl Try.underlying4 rfl
    (fun ds h => by have h : ds.length = 3 := h; match ds, h with | [_, _, _], _ => rfl) (by as_aux_lemma => kernel_rfl)
    (ChangeSpec.witness6 (enc := enc) (C := Try.checked) false ⟨#[], #[.slice none 0 0, .slice none 0 0, .slice none 0 0], []⟩ 8 (by as_aux_lemma => kernel_rfl) (by as_aux_lemma => kernel_rfl) (by as_aux_lemma => kernel_rfl) (by as_aux_lemma => kernel_rfl) (by as_aux_lemma => kernel_rfl)) sumLines_law
theorem sumLines_holds : Rows.SumLinesSaid :=
  OpenClaim.holds_of_wide 6 Try.f6 rfl rfl rfl rfl rfl rfl rfl ⟨rfl, rfl, rfl, rfl, rfl⟩ rfl rfl rfl rfl rfl sumLines_named Try.func6 sumLines.closed
    (of_decide_eq_true (by as_aux_lemma => kernel_rfl)) (by unfold Func.isWrapper; rw [if_neg (of_decide_eq_false (by as_aux_lemma => kernel_rfl))]; exact ⟨rfl, rfl⟩)
    (fun os started H enc _ => sumLines_lifted os started H enc)
#print axioms sumLines_holds
end Go.Proofs.Ytlnkhkkekfjebaa
