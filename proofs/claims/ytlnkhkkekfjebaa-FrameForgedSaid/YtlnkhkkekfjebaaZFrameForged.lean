/-
  FrameForged, proved: for every input the law returns true, and each argument reads afterwards as it read before. No condition.
-/
import Derived.Test.YtlnkhkkekfjebaaKFrameForged
import Derived.Test.YtlnkhkkekfjebaaFrm4
namespace Go.Proofs.Ytlnkhkkekfjebaa
open Go.RowKit Go.ChangeShapes Go.WideShapes Go.ChangeAt
theorem frameForged_named : Try.prog.funcNamed Rows.frameForgedRow.func = some 17 := by kernel_rfl
theorem frameForged_lifted (os : Os) (started : os.Started) (H : Type) (enc : TypeId × Value → H) :
    ReturnsInHanded {} Try.checked os 17 .any (Rows.frameForgedSpec.pre6 enc Try.prog Try.f17 Rows.frameForgedRow.domain false) (Rows.frameForgedSpec.post enc Try.prog Try.f17 false true false false) :=
  law_lift (C := Try.checked) 17 Try.f17 Rows.frameForgedSpec started P_own P_laid (by as_aux_lemma => kernel_rfl) Try.func17 4 rfl Try.underlying4 rfl
    (fun ds h => by have h : ds.length = 4 := h; match ds, h with | [_, _, _, _], _ => rfl) (by as_aux_lemma => kernel_rfl)
    (ChangeSpec.witness6 (enc := enc) (C := Try.checked) false ⟨#[], #[.int .u32 0, .int .u32 0, .bool false, .slice none 0 0], []⟩ 8 (by as_aux_lemma => kernel_rfl) (by as_aux_lemma => kernel_rfl) (by as_aux_lemma => kernel_rfl) (by as_aux_lemma => kernel_rfl) (by as_aux_lemma => kernel_rfl)) frameForged_law
theorem frameForged_holds : Rows.FrameForgedSaid :=
  OpenClaim.holds_of_wide 17 Try.f17 rfl rfl rfl rfl rfl rfl rfl ⟨rfl, rfl, rfl, rfl, rfl⟩ rfl rfl rfl rfl rfl frameForged_named Try.func17 frameForged.closed
    (of_decide_eq_true (by as_aux_lemma => kernel_rfl)) (by unfold Func.isWrapper; rw [if_neg (of_decide_eq_false (by as_aux_lemma => kernel_rfl))]; exact ⟨rfl, rfl⟩)
    (fun os started H enc _ => frameForged_lifted os started H enc)
#print axioms frameForged_holds
end Go.Proofs.Ytlnkhkkekfjebaa
