/-
  MvccApart, proved: for every input the law returns true, and each argument reads afterwards as it read before. No condition.
-/
import Derived.Test.YtoldelocfmpccaaKMvccApart
import Derived.Test.YtoldelocfmpccaaMvZ2W
import Derived.Test.YtoldelocfmpccaaMvPO
namespace Go.Proofs.Ytoldelocfmpccaa
open Go.RowKit Go.ChangeShapes Go.WideShapes Go.ChangeAt
theorem mvccApart_named : Try.prog.funcNamed Rows.mvccApartRow.func = some 5 := by kernel_rfl
theorem mvccApart_lifted (os : Os) (started : os.Started) (H : Type) (enc : TypeId × Value → H) :
    ReturnsInHanded {} Try.checked os 5 .any (Rows.mvccApartSpec.pre6 enc Try.prog Try.f5 Rows.mvccApartRow.domain false) (Rows.mvccApartSpec.post enc Try.prog Try.f5 false true false false) :=
  law_lift (C := Try.checked) 5 Try.f5 Rows.mvccApartSpec started P_own P_laid (by as_aux_lemma => kernel_rfl) Try.func5 4 rfl Try.underlying4 rfl
    (fun ds h => by have h : ds.length = 6 := h; match ds, h with | [_, _, _, _, _, _], _ => rfl) (by as_aux_lemma => kernel_rfl)
    (ChangeSpec.witness6 (enc := enc) (C := Try.checked) false ⟨#[], #[.slice none 0 0, .agg #[.string ⟨#[]⟩, .bool false, .string ⟨#[]⟩], .agg #[.int .i64 0, .int .i64 0, .int .i64 0, .int .i64 0, .int .i64 0, .int .i64 0, .int .i64 0, .bool false, .string ⟨#[]⟩], .bool false, .string ⟨#[]⟩, .agg #[.int .i64 0, .int .i64 0]], []⟩ 8 (by as_aux_lemma => kernel_rfl) (by as_aux_lemma => kernel_rfl) (by as_aux_lemma => kernel_rfl) (by as_aux_lemma => kernel_rfl) (by as_aux_lemma => kernel_rfl)) mvccApart_law
theorem mvccApart_holds : Rows.MvccApartSaid :=
  OpenClaim.holds_of_wide 5 Try.f5 rfl rfl rfl rfl rfl rfl rfl ⟨rfl, rfl, rfl, rfl, rfl⟩ rfl rfl rfl rfl rfl mvccApart_named Try.func5 mvccApart.closed
    (of_decide_eq_true (by as_aux_lemma => kernel_rfl)) (by unfold Func.isWrapper; rw [if_neg (of_decide_eq_false (by as_aux_lemma => kernel_rfl))]; exact ⟨rfl, rfl⟩)
    (fun os started H enc _ => mvccApart_lifted os started H enc)
#print axioms mvccApart_holds
end Go.Proofs.Ytoldelocfmpccaa
