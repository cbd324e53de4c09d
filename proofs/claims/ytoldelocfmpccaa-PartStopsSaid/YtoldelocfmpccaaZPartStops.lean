/-
  PartStops, proved: for every input the law returns true, and each argument reads afterwards as it read before. No condition.
-/
import Derived.Test.YtoldelocfmpccaaKPartStops
import Derived.Test.YtoldelocfmpccaaPaZ3W
import Derived.Test.YtoldelocfmpccaaMvPO
import Derived.Test.YtoldelocfmpccaaV1
namespace Go.Proofs.Ytoldelocfmpccaa
open Go.RowKit Go.ChangeShapes Go.WideShapes Go.ChangeAt
theorem partStops_named : Try.prog.funcNamed Rows.partStopsRow.func = some 19 := by kernel_rfl
theorem partStops_lifted (os : Os) (started : os.Started) (H : Type) (enc : TypeId × Value → H) :
    ReturnsInHanded {} Try.checked os 19 .any (Rows.partStopsSpec.pre6 enc Try.prog Try.f19 Rows.partStopsRow.domain false) (Rows.partStopsSpec.post enc Try.prog Try.f19 false true false false) :=
  law_lift (C := Try.checked) 19 Try.f19 Rows.partStopsSpec started P_own P_laid (by as_aux_lemma => kernel_rfl) Try.func19 4 rfl Try.underlying4 rfl
    (fun ds h => by have h : ds.length = 4 := h; match ds, h with | [_, _, _, _], _ => rfl) (by as_aux_lemma => kernel_rfl)
    (ChangeSpec.witness6 (enc := enc) (C := Try.checked) false ⟨#[], #[.slice none 0 0, .agg #[.int .i64 0, .int .i64 0, .int .i64 0, .int .i64 0], .agg #[.int .i64 0, .int .i64 0], .agg #[.string ⟨#[]⟩, .bool false, .string ⟨#[]⟩]], []⟩ 8 (by as_aux_lemma => kernel_rfl) (by as_aux_lemma => kernel_rfl) (by as_aux_lemma => kernel_rfl) (by as_aux_lemma => kernel_rfl) (by as_aux_lemma => kernel_rfl)) partStops_law
theorem partStops_holds : Rows.PartStopsSaid :=
  OpenClaim.holds_of_wide 19 Try.f19 rfl rfl rfl rfl rfl rfl rfl ⟨rfl, rfl, rfl, rfl, rfl⟩ rfl rfl rfl rfl rfl partStops_named Try.func19 partStops.closed
    (of_decide_eq_true (by as_aux_lemma => kernel_rfl)) (by unfold Func.isWrapper; rw [if_neg (of_decide_eq_false (by as_aux_lemma => kernel_rfl))]; exact ⟨rfl, rfl⟩)
    (fun os started H enc _ => partStops_lifted os started H enc)
#print axioms partStops_holds
end Go.Proofs.Ytoldelocfmpccaa
