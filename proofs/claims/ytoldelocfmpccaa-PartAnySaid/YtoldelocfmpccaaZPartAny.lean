/-
  PartAny, proved: for every input the law returns true, and each argument reads afterwards as it read before. No condition.
-/
import Derived.Test.YtoldelocfmpccaaKPartAny
import Derived.Test.YtoldelocfmpccaaPaZ9W
import Derived.Test.YtoldelocfmpccaaMvPO
import Derived.Test.YtoldelocfmpccaaV1
namespace Go.Proofs.Ytoldelocfmpccaa
open Go.RowKit Go.ChangeShapes Go.WideShapes Go.ChangeAt
theorem partAny_named : Try.prog.funcNamed Rows.partAnyRow.func = some 12 := by kernel_rfl
theorem partAny_lifted (os : Os) (started : os.Started) (H : Type) (enc : TypeId × Value → H) :
    ReturnsInHanded {} Try.checked os 12 .any (Rows.partAnySpec.pre6 enc Try.prog Try.f12 Rows.partAnyRow.domain false) (Rows.partAnySpec.post enc Try.prog Try.f12 false true false false) :=
  law_lift (C := Try.checked) 12 Try.f12 Rows.partAnySpec started P_own P_laid (by as_aux_lemma => kernel_rfl) Try.func12 4 rfl Try.underlying4 rfl
    (fun ds h => by have h : ds.length = 4 := h; match ds, h with | [_, _, _, _], _ => rfl) (by as_aux_lemma => kernel_rfl)
    (ChangeSpec.witness6 (enc := enc) (C := Try.checked) false ⟨#[], #[.agg #[.int .i64 0, .int .i64 0, .int .i64 0, .int .i64 0, .int .i64 0, .int .i64 0, .slice none 0 0, .slice none 0 0, .slice none 0 0], .agg #[.int .i64 0, .int .i64 0, .int .i64 0, .int .i64 0, .int .i64 0, .int .i64 0, .int .i64 0, .int .i64 0, .int .i64 0, .int .i64 0, .int .i64 0, .bool false, .slice none 0 0, .slice none 0 0], .bool false, .agg #[.int .i64 0, .int .i64 0, .int .i64 0, .int .i64 0]], []⟩ 8 (by as_aux_lemma => kernel_rfl) (by as_aux_lemma => kernel_rfl) (by as_aux_lemma => kernel_rfl) (by as_aux_lemma => kernel_rfl) (by as_aux_lemma => kernel_rfl)) partAny_law
theorem partAny_holds : Rows.PartAnySaid :=
  OpenClaim.holds_of_wide 12 Try.f12 rfl rfl rfl rfl rfl rfl rfl ⟨rfl, rfl, rfl, rfl, rfl⟩ rfl rfl rfl rfl rfl partAny_named Try.func12 partAny.closed
    (of_decide_eq_true (by as_aux_lemma => kernel_rfl)) (by unfold Func.isWrapper; rw [if_neg (of_decide_eq_false (by as_aux_lemma => kernel_rfl))]; exact ⟨rfl, rfl⟩)
    (fun os started H enc _ => partAny_lifted os started H enc)
#print axioms partAny_holds
end Go.Proofs.Ytoldelocfmpccaa
