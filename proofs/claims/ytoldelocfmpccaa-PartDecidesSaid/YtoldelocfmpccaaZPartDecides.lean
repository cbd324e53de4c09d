/-
  PartDecides, proved: for every input the law returns true, and each argument reads afterwards as it read before. No condition.
-/
import Derived.Test.YtoldelocfmpccaaKPartDecides
import Derived.Test.YtoldelocfmpccaaPaZ5W
import Derived.Test.YtoldelocfmpccaaMvPO
import Derived.Test.YtoldelocfmpccaaV1
namespace Go.Proofs.Ytoldelocfmpccaa
open Go.RowKit Go.ChangeShapes Go.WideShapes Go.ChangeAt
theorem partDecides_named : Try.prog.funcNamed Rows.partDecidesRow.func = some 15 := by kernel_rfl
theorem partDecides_lifted (os : Os) (started : os.Started) (H : Type) (enc : TypeId × Value → H) :
    ReturnsInHanded {} Try.checked os 15 .any (Rows.partDecidesSpec.pre6 enc Try.prog Try.f15 Rows.partDecidesRow.domain false) (Rows.partDecidesSpec.post enc Try.prog Try.f15 false true false false) :=
  law_lift (C := Try.checked) 15 Try.f15 Rows.partDecidesSpec started P_own P_laid (by as_aux_lemma => kernel_rfl) Try.func15 4 rfl Try.underlying4 rfl
    (fun ds h => by have h : ds.length = 1 := h; match ds, h with | [_], _ => rfl) (by as_aux_lemma => kernel_rfl)
    (ChangeSpec.witness6 (enc := enc) (C := Try.checked) false ⟨#[], #[.slice none 0 0], []⟩ 8 (by as_aux_lemma => kernel_rfl) (by as_aux_lemma => kernel_rfl) (by as_aux_lemma => kernel_rfl) (by as_aux_lemma => kernel_rfl) (by as_aux_lemma => kernel_rfl)) partDecides_law
theorem partDecides_holds : Rows.PartDecidesSaid :=
  OpenClaim.holds_of_wide 15 Try.f15 rfl rfl rfl rfl rfl rfl rfl ⟨rfl, rfl, rfl, rfl, rfl⟩ rfl rfl rfl rfl rfl partDecides_named Try.func15 partDecides.closed
    (of_decide_eq_true (by as_aux_lemma => kernel_rfl)) (by unfold Func.isWrapper; rw [if_neg (of_decide_eq_false (by as_aux_lemma => kernel_rfl))]; exact ⟨rfl, rfl⟩)
    (fun os started H enc _ => partDecides_lifted os started H enc)
#print axioms partDecides_holds
end Go.Proofs.Ytoldelocfmpccaa
