/-
  SumCuts, proved: for every input the law returns true, and each argument reads afterwards as it read before. No condition.
-/
import Derived.Test.YtlnkhkkekfjebaaKSumCuts
import Derived.Test.YtlnkhkkekfjebaaSumC
namespace Go.Proofs.Ytlnkhkkekfjebaa
open Go.RowKit Go.ChangeShapes Go.WideShapes Go.ChangeAt
theorem sumCuts_named : Try.prog.funcNamed Rows.sumCutsRow.func = some 4 := by kernel_rfl
theorem sumCuts_lifted (os : Os) (started : os.Started) (H : Type) (enc : TypeId × Value → H) :
    ReturnsInHanded {} Try.checked os 4 .any (Rows.sumCutsSpec.pre6 enc Try.prog Try.f4 Rows.sumCutsRow.domain false) (Rows.sumCutsSpec.post enc Try.prog Try.f4 false true false false) :=
  law_lift (C := Try.checked) 4 Try.f4 Rows.sumCutsSpec started P_own P_laid (by as_aux_lemma => kernel_rfl) Try.func4 4 rfl Try.underlying4 rfl
    (fun ds h => by have h : ds.length = 2 := h; match ds, h with | [_, _], _ => rfl) (by as_aux_lemma => kernel_rfl)
    (ChangeSpec.witness6 (enc := enc) (C := Try.checked) false ⟨#[], #[.slice none 0 0, .slice none 0 0], []⟩ 8 (by as_aux_lemma => kernel_rfl) (by as_aux_lemma => kernel_rfl) (by as_aux_lemma => kernel_rfl) (by as_aux_lemma => kernel_rfl) (by as_aux_lemma => kernel_rfl)) sumCuts_law
theorem sumCuts_holds : Rows.SumCutsSaid :=
  OpenClaim.holds_of_wide 4 Try.f4 rfl rfl rfl rfl rfl rfl rfl ⟨rfl, rfl, rfl, rfl, rfl⟩ rfl rfl rfl rfl rfl sumCuts_named Try.func4 sumCuts.closed
    (of_decide_eq_true (by as_aux_lemma => kernel_rfl)) (by unfold Func.isWrapper; rw [if_neg (of_decide_eq_false (by as_aux_lemma => kernel_rfl))]; exact ⟨rfl, rfl⟩)
    (fun os started H enc _ => sumCuts_lifted os started H enc)
#print axioms sumCuts_holds
end Go.Proofs.Ytlnkhkkekfjebaa
