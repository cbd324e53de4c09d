/-
  FrameWrites, proved: for every input the law returns true, and each argument reads afterwards as it read before. No condition.
-/
import Derived.Test.YtlnkhkkekfjebaaKFrameWrites
import Derived.Test.YtlnkhkkekfjebaaFrm1
namespace Go.Proofs.Ytlnkhkkekfjebaa
open Go.RowKit Go.ChangeShapes Go.WideShapes Go.ChangeAt
theorem frameWrites_named : Try.prog.funcNamed Rows.frameWritesRow.func = some 12 := by kernel_rfl
theorem frameWrites_lifted (os : Os) (started : os.Started) (H : Type) (enc : TypeId × Value → H) :
    ReturnsInHanded {} Try.checked os 12 .any (Rows.frameWritesSpec.pre6 enc Try.prog Try.f12 Rows.frameWritesRow.domain false) (Rows.frameWritesSpec.post enc Try.prog Try.f12 false true false false) :=
  law_lift (C := Try.checked) 12 Try.f12 Rows.frameWritesSpec started P_own P_laid (by as_aux_lemma => kernel_rfl) Try.func12 4 rfl Try.underlying4 rfl
    (fun ds h => by have h : ds.length = 2 := h; match ds, h with | [_, _], _ => rfl) (by as_aux_lemma => kernel_rfl)
    (ChangeSpec.witness6 (enc := enc) (C := Try.checked) false ⟨#[], #[.slice none 0 0, .slice none 0 0], []⟩ 8 (by as_aux_lemma => kernel_rfl) (by as_aux_lemma => kernel_rfl) (by as_aux_lemma => kernel_rfl) (by as_aux_lemma => kernel_rfl) (by as_aux_lemma => kernel_rfl)) frameWrites_law
theorem frameWrites_holds : Rows.FrameWritesSaid :=
  OpenClaim.holds_of_wide 12 Try.f12 rfl rfl rfl rfl rfl rfl rfl ⟨rfl, rfl, rfl, rfl, rfl⟩ rfl rfl rfl rfl rfl frameWrites_named Try.func12 frameWrites.closed
    (of_decide_eq_true (by as_aux_lemma => kernel_rfl)) (by unfold Func.isWrapper; rw [if_neg (of_decide_eq_false (by as_aux_lemma => kernel_rfl))]; exact ⟨rfl, rfl⟩)
    (fun os started H enc _ => frameWrites_lifted os started H enc)
#print axioms frameWrites_holds
end Go.Proofs.Ytlnkhkkekfjebaa
