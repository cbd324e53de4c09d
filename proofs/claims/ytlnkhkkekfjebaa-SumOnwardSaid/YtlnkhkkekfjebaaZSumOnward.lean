/-
  SumOnward, proved: for every input the law returns true, and each argument reads afterwards as it read before. No condition.
-/
import Derived.Test.YtlnkhkkekfjebaaKSumOnward
import Derived.Test.YtlnkhkkekfjebaaSumF
namespace Go.Proofs.Ytlnkhkkekfjebaa
open Go.RowKit Go.ChangeShapes Go.WideShapes Go.ChangeAt
theorem sumOnward_named : Try.prog.funcNamed Rows.sumOnwardRow.func = some 7 := by kernel_rfl
theorem sumOnward_lifted (os : Os) (started : os.Started) (H : Type) (enc : TypeId × Value → H) :
    ReturnsInHanded {} Try.checked os 7 .any (Rows.sumOnwardSpec.pre6 enc Try.prog Try.f7 Rows.sumOnwardRow.domain false) (Rows.sumOnwardSpec.post enc Try.prog Try.f7 false true false false) :=
  law_lift (C := Try.checked) 7 Try.f7 Rows.sumOnwardSpec started P_own P_laid (by as_aux_lemma => kernel_rfl) Try.func7 4 rfl Try.underlying4 rfl
    (fun ds h => by have h : ds.length = 2 := h; match ds, h with | [_, _], _ => rfl) (by as_aux_lemma => kernel_rfl)
    (ChangeSpec.witness6 (enc := enc) (C := Try.checked) false ⟨#[], #[.slice none 0 0, .int .i64 0], []⟩ 8 (by as_aux_lemma => kernel_rfl) (by as_aux_lemma => kernel_rfl) (by as_aux_lemma => kernel_rfl) (by as_aux_lemma => kernel_rfl) (by as_aux_lemma => kernel_rfl)) sumOnward_law
theorem sumOnward_holds : Rows.SumOnwardSaid :=
  OpenClaim.holds_of_wide 7 Try.f7 rfl rfl rfl rfl rfl rfl rfl ⟨rfl, rfl, rfl, rfl, rfl⟩ rfl rfl rfl rfl rfl sumOnward_named Try.func7 sumOnward.closed
    (of_decide_eq_true (by as_aux_lemma => kernel_rfl)) (by unfold Func.isWrapper; rw [if_neg (of_decide_eq_false (by as_aux_lemma => kernel_rfl))]; exact ⟨rfl, rfl⟩)
    (fun os started H enc _ => sumOnward_lifted os started H enc)
#print axioms sumOnward_holds
end Go.Proofs.Ytlnkhkkekfjebaa
