/-
  SumAll, proved: for every input the law returns true, and each argument reads afterwards as it read before. No condition.
-/
import Derived.Test.YtlnkhkkekfjebaaKSumAll
import Derived.Test.YtlnkhkkekfjebaaSumA
namespace Go.Proofs.Ytlnkhkkekfjebaa
open Go.RowKit Go.ChangeShapes Go.WideShapes Go.ChangeAt
theorem sumAll_named : Try.prog.funcNamed Rows.sumAllRow.func = some 3 := by kernel_rfl
theorem sumAll_lifted (os : Os) (started : os.Started) (H : Type) (enc : TypeId × Value → H) :
    ReturnsInHanded {} Try.checked os 3 .any (Rows.sumAllSpec.pre6 enc Try.prog Try.f3 Rows.sumAllRow.domain false) (Rows.sumAllSpec.post enc Try.prog Try.f3 false true false false) :=
  law_lift (C := Try.checked) 3 Try.f3 Rows.sumAllSpec started P_own P_laid (by as_aux_lemma => kernel_rfl) Try.func3 4 rfl Try.underlying4 rfl
    (fun ds h => by have h : ds.length = 2 := h; match ds, h with | [_, _], _ => rfl) (by as_aux_lemma => kernel_rfl)
    (ChangeSpec.witness6 (enc := enc) (C := Try.checked) false ⟨#[], #[.slice none 0 0, .int .u32 0], []⟩ 8 (by as_aux_lemma => kernel_rfl) (by as_aux_lemma => kernel_rfl) (by as_aux_lemma => kernel_rfl) (by as_aux_lemma => kernel_rfl) (by as_aux_lemma => kernel_rfl)) sumAll_law
theorem sumAll_holds : Rows.SumAllSaid :=
  OpenClaim.holds_of_wide 3 Try.f3 rfl rfl rfl rfl rfl rfl rfl ⟨rfl, rfl, rfl, rfl, rfl⟩ rfl rfl rfl rfl rfl sumAll_named Try.func3 sumAll.closed
    (of_decide_eq_true (by as_aux_lemma => kernel_rfl)) (by unfold Func.isWrapper; rw [if_neg (of_decide_eq_false (by as_aux_lemma => kernel_rfl))]; exact ⟨rfl, rfl⟩)
    (fun os started H enc _ => sumAll_lifted os started H enc)
#print axioms sumAll_holds
end Go.Proofs.Ytlnkhkkekfjebaa
