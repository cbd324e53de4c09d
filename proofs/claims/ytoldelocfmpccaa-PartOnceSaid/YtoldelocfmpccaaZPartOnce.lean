/-
  PartOnce, proved: for every input the law returns true, and each argument reads afterwards as it read before. No condition.
-/
import Derived.Test.YtoldelocfmpccaaKPartOnce
import Derived.Test.YtoldelocfmpccaaPaZ2W
import Derived.Test.YtoldelocfmpccaaMvPO
import Derived.Test.YtoldelocfmpccaaV1
namespace Go.Proofs.Ytoldelocfmpccaa
open Go.RowKit Go.ChangeShapes Go.WideShapes Go.ChangeAt
theorem partOnce_named : Try.prog.funcNamed Rows.partOnceRow.func = some 16 := by kernel_rfl
theorem partOnce_lifted (os : Os) (started : os.Started) (H : Type) (enc : TypeId × Value → H) :
    ReturnsInHanded {} Try.checked os 16 .any (Rows.partOnceSpec.pre6 enc Try.prog Try.f16 Rows.partOnceRow.domain false) (Rows.partOnceSpec.post enc Try.prog Try.f16 false true false false) :=
  law_lift (C := Try.checked) 16 Try.f16 Rows.partOnceSpec started P_own P_laid (by as_aux_lemma => kernel_rfl) Try.func16 4 rfl Try.underlying4 rfl
    (fun ds h => by have h : ds.length = 2 := h; match ds, h with | [_, _], _ => rfl) (by as_aux_lemma => kernel_rfl)
    (ChangeSpec.witness6 (enc := enc) (C := Try.checked) false ⟨#[], #[.slice none 0 0, .agg #[.int .i64 0, .int .i64 0, .int .i64 0, .int .i64 0, .int .i64 0, .int .i64 0, .int .i64 0, .int .i64 0, .int .i64 0, .int .i64 0, .int .i64 0, .bool false, .slice none 0 0, .slice none 0 0]], []⟩ 8 (by as_aux_lemma => kernel_rfl) (by as_aux_lemma => kernel_rfl) (by as_aux_lemma => kernel_rfl) (by as_aux_lemma => kernel_rfl) (by as_aux_lemma => kernel_rfl)) partOnce_law
theorem partOnce_holds : Rows.PartOnceSaid :=
  OpenClaim.holds_of_wide 16 Try.f16 rfl rfl rfl rfl rfl rfl rfl ⟨rfl, rfl, rfl, rfl, rfl⟩ rfl rfl rfl rfl rfl partOnce_named Try.func16 partOnce.closed
    (of_decide_eq_true (by as_aux_lemma => kernel_rfl)) (by unfold Func.isWrapper; rw [if_neg (of_decide_eq_false (by as_aux_lemma => kernel_rfl))]; exact ⟨rfl, rfl⟩)
    (fun os started H enc _ => partOnce_lifted os started H enc)
#print axioms partOnce_holds
end Go.Proofs.Ytoldelocfmpccaa
