/-
  SumBursts, proved: for every input the law returns true, and each argument reads afterwards as it read before. No condition.
-/
import Derived.Test.YtlnkhkkekfjebaaKSumBursts
import Derived.Test.YtlnkhkkekfjebaaSumE
namespace Go.Proofs.Ytlnkhkkekfjebaa
open Go.RowKit Go.ChangeShapes Go.WideShapes Go.ChangeAt
theorem sumBursts_named : Try.prog.funcNamed Rows.sumBurstsRow.func = some 5 := by kernel_rfl
theorem sumBursts_lifted (os : Os) (started : os.Started) (H : Type) (enc : TypeId × Value → H) :
    ReturnsInHanded {} Try.checked os 5 .any (Rows.sumBurstsSpec.pre6 enc Try.prog Try.f5 Rows.sumBurstsRow.domain false) (Rows.sumBurstsSpec.post enc Try.prog Try.f5 false true false false) :=
  law_lift (C := Try.checked) 5 Try.f5 Rows.sumBurstsSpec started P_own P_laid (by as_aux_lemma => kernel_rfl) Try.func5 4 rfl Try.underlying4 rfl
    (fun ds h => by have h : ds.length = 3 := h; match ds, h with | [_, _, _], _ => rfl) (by as_aux_lemma => kernel_rfl)
    (ChangeSpec.witness6 (enc := enc) (C := Try.checked) false ⟨#[], #[.slice none 0 0, .int .i64 0, .int .u32 0], []⟩ 8 (by as_aux_lemma => kernel_rfl) (by as_aux_lemma => kernel_rfl) (by as_aux_lemma => kernel_rfl) (by as_aux_lemma => kernel_rfl) (by as_aux_lemma => kernel_rfl)) sumBursts_law
theorem sumBursts_holds : Rows.SumBurstsSaid :=
  OpenClaim.holds_of_wide 5 Try.f5 rfl rfl rfl rfl rfl rfl rfl ⟨rfl, rfl, rfl, rfl, rfl⟩ rfl rfl rfl rfl rfl sumBursts_named Try.func5 sumBursts.closed
    (of_decide_eq_true (by as_aux_lemma => kernel_rfl)) (by unfold Func.isWrapper; rw [if_neg (of_decide_eq_false (by as_aux_lemma => kernel_rfl))]; exact ⟨rfl, rfl⟩)
    (fun os started H enc _ => sumBursts_lifted os started H enc)
#print axioms sumBursts_holds
end Go.Proofs.Ytlnkhkkekfjebaa
