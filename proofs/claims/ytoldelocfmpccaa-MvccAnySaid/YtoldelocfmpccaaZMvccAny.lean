/-
  MvccAny, proved: for every input the law returns true, and each argument reads afterwards as it read before. No condition.
-/
import Derived.Test.YtoldelocfmpccaaKMvccAny
import Derived.Test.YtoldelocfmpccaaMvZ8W
import Derived.Test.YtoldelocfmpccaaMvPO
namespace Go.Proofs.Ytoldelocfmpccaa
open Go.RowKit Go.ChangeShapes Go.WideShapes Go.ChangeAt
theorem mvccAny_named : Try.prog.funcNamed Rows.mvccAnyRow.func = some 10 := by kernel_rfl
theorem mvccAny_lifted (os : Os) (started : os.Started) (H : Type) (enc : TypeId × Value → H) :
    ReturnsInHanded {} Try.checked os 10 .any (Rows.mvccAnySpec.pre6 enc Try.prog Try.f10 Rows.mvccAnyRow.domain false) (Rows.mvccAnySpec.post enc Try.prog Try.f10 false true false false) :=
  law_lift (C := Try.checked) 10 Try.f10 Rows.mvccAnySpec started P_own P_laid (by as_aux_lemma => kernel_rfl) Try.func10 4 rfl Try.underlying4 rfl
    (fun ds h => by have h : ds.length = 7 := h; match ds, h with | [_, _, _, _, _, _, _], _ => rfl) (by as_aux_lemma => kernel_rfl)
    (ChangeSpec.witness6 (enc := enc) (C := Try.checked) false ⟨#[], #[.slice none 0 0, .string ⟨#[]⟩, .agg #[.int .i64 0, .int .i64 0], .agg #[.string ⟨#[]⟩, .string ⟨#[]⟩], .agg #[.int .i64 0, .int .i64 0, .int .i64 0, .int .i64 0], .int .i64 0, .agg #[.int .i64 0, .string ⟨#[]⟩, .bool false, .string ⟨#[]⟩, .int .i64 0, .int .i64 0, .int .i64 0, .int .i64 0, .int .i64 0, .int .i64 0, .int .i64 0, .bool false, .string ⟨#[]⟩, .bool false]], []⟩ 8 (by as_aux_lemma => kernel_rfl) (by as_aux_lemma => kernel_rfl) (by as_aux_lemma => kernel_rfl) (by as_aux_lemma => kernel_rfl) (by as_aux_lemma => kernel_rfl)) mvccAny_law
theorem mvccAny_holds : Rows.MvccAnySaid :=
  OpenClaim.holds_of_wide 10 Try.f10 rfl rfl rfl rfl rfl rfl rfl ⟨rfl, rfl, rfl, rfl, rfl⟩ rfl rfl rfl rfl rfl mvccAny_named Try.func10 mvccAny.closed
    (of_decide_eq_true (by as_aux_lemma => kernel_rfl)) (by unfold Func.isWrapper; rw [if_neg (of_decide_eq_false (by as_aux_lemma => kernel_rfl))]; exact ⟨rfl, rfl⟩)
    (fun os started H enc _ => mvccAny_lifted os started H enc)
#print axioms mvccAny_holds
end Go.Proofs.Ytoldelocfmpccaa
