/-
  PartCloses, proved: for every input the law returns true, and each argument reads afterwards as it read before. No condition.
-/
import Derived.Test.YtoldelocfmpccaaKPartCloses
import Derived.Test.YtoldelocfmpccaaPaZ7W
import Derived.Test.YtoldelocfmpccaaMvPO
import Derived.Test.YtoldelocfmpccaaV1
namespace Go.Proofs.Ytoldelocfmpccaa
open Go.RowKit Go.ChangeShapes Go.WideShapes Go.ChangeAt
theorem partCloses_named : Try.prog.funcNamed Rows.partClosesRow.func = some 14 := by kernel_rfl
theorem partCloses_lifted (os : Os) (started : os.Started) (H : Type) (enc : TypeId × Value → H) :
    ReturnsInHanded {} Try.checked os 14 .any (Rows.partClosesSpec.pre6 enc Try.prog Try.f14 Rows.partClosesRow.domain false) (Rows.partClosesSpec.post enc Try.prog Try.f14 false true false false) :=
  law_lift (C := Try.checked) 14 Try.f14 Rows.partClosesSpec started P_own P_laid (by as_aux_lemma => kernel_rfl) Try.func14 4 rfl Try.underlying4 rfl
    (fun ds h => by have h : ds.length = 4 := h; match ds, h with | [_, _, _, _], _ => rfl) (by as_aux_lemma => kernel_rfl)
    (ChangeSpec.witness6 (enc := enc) (C := Try.checked) false ⟨#[], #[.slice none 0 0, .int .i64 0, .int .i64 0, .agg #[.string ⟨#[]⟩, .string ⟨#[]⟩]], []⟩ 8 (by as_aux_lemma => kernel_rfl) (by as_aux_lemma => kernel_rfl) (by as_aux_lemma => kernel_rfl) (by as_aux_lemma => kernel_rfl) (by as_aux_lemma => kernel_rfl)) partCloses_law
theorem partCloses_holds : Rows.PartClosesSaid :=
  OpenClaim.holds_of_wide 14 Try.f14 rfl rfl rfl rfl rfl rfl rfl ⟨rfl, rfl, rfl, rfl, rfl⟩ rfl rfl rfl rfl rfl partCloses_named Try.func14 partCloses.closed
    (of_decide_eq_true (by as_aux_lemma => kernel_rfl)) (by unfold Func.isWrapper; rw [if_neg (of_decide_eq_false (by as_aux_lemma => kernel_rfl))]; exact ⟨rfl, rfl⟩)
    (fun os started H enc _ => partCloses_lifted os started H enc)
#print axioms partCloses_holds
end Go.Proofs.Ytoldelocfmpccaa
