/-
  FrameAgain, proved: for every input the law returns true, and each argument reads afterwards as it read before. No condition.
-/
import Derived.Test.YtlnkhkkekfjebaaKFrameAgain
import Derived.Test.YtlnkhkkekfjebaaFrm2
namespace Go.Proofs.Ytlnkhkkekfjebaa
open Go.RowKit Go.ChangeShapes Go.WideShapes Go.ChangeAt
theorem frameAgain_named : Try.prog.funcNamed Rows.frameAgainRow.func = some 16 := by kernel_rfl
theorem frameAgain_lifted (os : Os) (started : os.Started) (H : Type) (enc : TypeId × Value → H) :
    ReturnsInHanded {} Try.checked os 16 .any (Rows.frameAgainSpec.pre6 enc Try.prog Try.f16 Rows.frameAgainRow.domain false) (Rows.frameAgainSpec.post enc Try.prog Try.f16 false true false false) :=
  law_lift (C := Try.checked) 16 Try.f16 Rows.frameAgainSpec started P_own P_laid (by as_aux_lemma => kernel_rfl) Try.func16 4 rfl Try.underlying4 rfl
    (fun ds h => by have h : ds.length = 1 := h; match ds, h with | [_], _ => rfl) (by as_aux_lemma => kernel_rfl)
    (ChangeSpec.witness6 (enc := enc) (C := Try.checked) false ⟨#[], #[.slice none 0 0], []⟩ 8 (by as_aux_lemma => kernel_rfl) (by as_aux_lemma => kernel_rfl) (by as_aux_lemma => kernel_rfl) (by as_aux_lemma => kernel_rfl) (by as_aux_lemma => kernel_rfl)) frameAgain_law
theorem frameAgain_holds : Rows.FrameAgainSaid :=
  OpenClaim.holds_of_wide 16 Try.f16 rfl rfl rfl rfl rfl rfl rfl ⟨rfl, rfl, rfl, rfl, rfl⟩ rfl rfl rfl rfl rfl frameAgain_named Try.func16 frameAgain.closed
    (of_decide_eq_true (by as_aux_lemma => kernel_rfl)) (by unfold Func.isWrapper; rw [if_neg (of_decide_eq_false (by as_aux_lemma => kernel_rfl))]; exact ⟨rfl, rfl⟩)
    (fun os started H enc _ => frameAgain_lifted os started H enc)
#print axioms frameAgain_holds
end Go.Proofs.Ytlnkhkkekfjebaa
