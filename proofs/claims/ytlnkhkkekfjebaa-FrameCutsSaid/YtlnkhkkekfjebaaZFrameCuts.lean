/-
  FrameCuts, proved: for every input the law returns true, and each argument reads afterwards as it read before. No condition.
-/
import Derived.Test.YtlnkhkkekfjebaaKFrameCuts
import Derived.Test.YtlnkhkkekfjebaaFrm6
namespace Go.Proofs.Ytlnkhkkekfjebaa
open Go.RowKit Go.ChangeShapes Go.WideShapes Go.ChangeAt
theorem frameCuts_named : Try.prog.funcNamed Rows.frameCutsRow.func = some 14 := by kernel_rfl
theorem frameCuts_lifted (os : Os) (started : os.Started) (H : Type) (enc : TypeId × Value → H) :
    ReturnsInHanded {} Try.checked os 14 .any (Rows.frameCutsSpec.pre6 enc Try.prog Try.f14 Rows.frameCutsRow.domain false) (Rows.frameCutsSpec.post enc Try.prog Try.f14 false true false false) :=
  law_lift (C := Try.checked) 14 Try.f14 Rows.frameCutsSpec started P_own P_laid (by as_aux_lemma => kernel_rfl) Try.func14 4 rfl Try.underlying4 rfl
    (fun ds h => by have h : ds.length = 2 := h; match ds, h with | [_, _], _ => rfl) (by as_aux_lemma => kernel_rfl)
    (ChangeSpec.witness6 (enc := enc) (C := Try.checked) false ⟨#[], #[.slice none 0 0, .int .i64 0], []⟩ 8 (by as_aux_lemma => kernel_rfl) (by as_aux_lemma => kernel_rfl) (by as_aux_lemma => kernel_rfl) (by as_aux_lemma => kernel_rfl) (by as_aux_lemma => kernel_rfl)) frameCuts_law
theorem frameCuts_holds : Rows.FrameCutsSaid :=
  OpenClaim.holds_of_wide 14 Try.f14 rfl rfl rfl rfl rfl rfl rfl ⟨rfl, rfl, rfl, rfl, rfl⟩ rfl rfl rfl rfl rfl frameCuts_named Try.func14 frameCuts.closed
    (of_decide_eq_true (by as_aux_lemma => kernel_rfl)) (by unfold Func.isWrapper; rw [if_neg (of_decide_eq_false (by as_aux_lemma => kernel_rfl))]; exact ⟨rfl, rfl⟩)
    (fun os started H enc _ => frameCuts_lifted os started H enc)
#print axioms frameCuts_holds
end Go.Proofs.Ytlnkhkkekfjebaa
