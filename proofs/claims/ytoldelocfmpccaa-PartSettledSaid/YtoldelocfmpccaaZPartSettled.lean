/-
  PartSettled, proved: for every input the law returns true, and each argument reads afterwards as it read before. No condition.
-/
import Derived.Test.YtoldelocfmpccaaKPartSettled
import Derived.Test.YtoldelocfmpccaaPaZ4W
import Derived.Test.YtoldelocfmpccaaMvPO
import Derived.Test.YtoldelocfmpccaaV1
namespace Go.Proofs.Ytoldelocfmpccaa
open Go.RowKit Go.ChangeShapes Go.WideShapes Go.ChangeAt
theorem partSettled_named : Try.prog.funcNamed Rows.partSettledRow.func = some 20 := by kernel_rfl
theorem partSettled_lifted (os : Os) (started : os.Started) (H : Type) (enc : TypeId × Value → H) :
    ReturnsInHanded {} Try.checked os 20 .any (Rows.partSettledSpec.pre6 enc Try.prog Try.f20 Rows.partSettledRow.domain false) (Rows.partSettledSpec.post enc Try.prog Try.f20 false true false false) :=
  law_lift (C := Try.checked) 20 Try.f20 Rows.partSettledSpec started P_own P_laid (by as_aux_lemma => kernel_rfl) Try.func20 4 rfl Try.underlying4 rfl
    (fun ds h => by have h : ds.length = 6 := h; match ds, h with | [_, _, _, _, _, _], _ => rfl) (by as_aux_lemma => kernel_rfl)
    (ChangeSpec.witness6 (enc := enc) (C := Try.checked) false ⟨#[], #[.slice none 0 0, .agg #[.int .i64 0, .int .i64 0, .int .i64 0, .int .i64 0], .agg #[.int .i64 0, .int .i64 0], .agg #[.string ⟨#[]⟩, .bool false, .string ⟨#[]⟩], .bool false, .agg #[.int .i64 0, .int .i64 0]], []⟩ 8 (by as_aux_lemma => kernel_rfl) (by as_aux_lemma => kernel_rfl) (by as_aux_lemma => kernel_rfl) (by as_aux_lemma => kernel_rfl) (by as_aux_lemma => kernel_rfl)) partSettled_law
theorem partSettled_holds : Rows.PartSettledSaid :=
  OpenClaim.holds_of_wide 20 Try.f20 rfl rfl rfl rfl rfl rfl rfl ⟨rfl, rfl, rfl, rfl, rfl⟩ rfl rfl rfl rfl rfl partSettled_named Try.func20 partSettled.closed
    (of_decide_eq_true (by as_aux_lemma => kernel_rfl)) (by unfold Func.isWrapper; rw [if_neg (of_decide_eq_false (by as_aux_lemma => kernel_rfl))]; exact ⟨rfl, rfl⟩)
    (fun os started H enc _ => partSettled_lifted os started H enc)
#print axioms partSettled_holds
end Go.Proofs.Ytoldelocfmpccaa
