/-
  DiskTails, proved: for every input the law returns true, and each argument reads afterwards as it read before. No condition.
-/
import Derived.Test.YtlnkhkkekfjebaaKDiskTails
import Derived.Test.YtlnkhkkekfjebaaDiskT
namespace Go.Proofs.Ytlnkhkkekfjebaa
open Go.RowKit Go.ChangeShapes Go.WideShapes Go.ChangeAt
theorem diskTails_named : Try.prog.funcNamed Rows.diskTailsRow.func = some 8 := by kernel_rfl
theorem diskTails_lifted (os : Os) (started : os.Started) (H : Type) (enc : TypeId × Value → H) :
    ReturnsInHanded {} Try.checked os 8 .any (Rows.diskTailsSpec.pre6 enc Try.prog Try.f8 Rows.diskTailsRow.domain false) (Rows.diskTailsSpec.post enc Try.prog Try.f8 false true false false) :=
  law_lift (C := Try.checked) 8 Try.f8 Rows.diskTailsSpec started P_own P_laid (by as_aux_lemma => kernel_rfl) Try.func8 4 rfl Try.underlying4 rfl
    (fun ds h => by have h : ds.length = 3 := h; match ds, h with | [_, _, _], _ => rfl) (by as_aux_lemma => kernel_rfl)
    (ChangeSpec.witness6 (enc := enc) (C := Try.checked) false ⟨#[], #[.slice none 0 0, .slice none 0 0, .slice none 0 0], []⟩ 8 (by as_aux_lemma => kernel_rfl) (by as_aux_lemma => kernel_rfl) (by as_aux_lemma => kernel_rfl) (by as_aux_lemma => kernel_rfl) (by as_aux_lemma => kernel_rfl)) diskTails_law
theorem diskTails_holds : Rows.DiskTailsSaid :=
  OpenClaim.holds_of_wide 8 Try.f8 rfl rfl rfl rfl rfl rfl rfl ⟨rfl, rfl, rfl, rfl, rfl⟩ rfl rfl rfl rfl rfl diskTails_named Try.func8 diskTails.closed
    (of_decide_eq_true (by as_aux_lemma => kernel_rfl)) (by unfold Func.isWrapper; rw [if_neg (of_decide_eq_false (by as_aux_lemma => kernel_rfl))]; exact ⟨rfl, rfl⟩)
    (fun os started H enc _ => diskTails_lifted os started H enc)
#print axioms diskTails_holds
end Go.Proofs.Ytlnkhkkekfjebaa
