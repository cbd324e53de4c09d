/-
  MvccTrims, proved: for every input the law returns true, and each argument reads afterwards as it read before. No condition.
-/
import Derived.Test.YtoldelocfmpccaaKMvccTrims
import Derived.Test.YtoldelocfmpccaaMvZ5W
import Derived.Test.YtoldelocfmpccaaMvPO
namespace Go.Proofs.Ytoldelocfmpccaa
open Go.RowKit Go.ChangeShapes Go.WideShapes Go.ChangeAt
theorem mvccTrims_named : Try.prog.funcNamed Rows.mvccTrimsRow.func = some 7 := by kernel_rfl
theorem mvccTrims_lifted (os : Os) (started : os.Started) (H : Type) (enc : TypeId × Value → H) :
    ReturnsInHanded {} Try.checked os 7 .any (Rows.mvccTrimsSpec.pre6 enc Try.prog Try.f7 Rows.mvccTrimsRow.domain false) (Rows.mvccTrimsSpec.post enc Try.prog Try.f7 false true false false) :=
  law_lift (C := Try.checked) 7 Try.f7 Rows.mvccTrimsSpec started P_own P_laid (by as_aux_lemma => kernel_rfl) Try.func7 4 rfl Try.underlying4 rfl
    (fun ds h => by have h : ds.length = 4 := h; match ds, h with | [_, _, _, _], _ => rfl) (by as_aux_lemma => kernel_rfl)
    (ChangeSpec.witness6 (enc := enc) (C := Try.checked) false ⟨#[], #[.slice none 0 0, .agg #[.int .i64 0, .int .i64 0], .agg #[.int .i64 0, .int .i64 0], .agg #[.string ⟨#[]⟩, .string ⟨#[]⟩]], []⟩ 8 (by as_aux_lemma => kernel_rfl) (by as_aux_lemma => kernel_rfl) (by as_aux_lemma => kernel_rfl) (by as_aux_lemma => kernel_rfl) (by as_aux_lemma => kernel_rfl)) mvccTrims_law
theorem mvccTrims_holds : Rows.MvccTrimsSaid :=
  OpenClaim.holds_of_wide 7 Try.f7 rfl rfl rfl rfl rfl rfl rfl ⟨rfl, rfl, rfl, rfl, rfl⟩ rfl rfl rfl rfl rfl mvccTrims_named Try.func7 mvccTrims.closed
    (of_decide_eq_true (by as_aux_lemma => kernel_rfl)) (by unfold Func.isWrapper; rw [if_neg (of_decide_eq_false (by as_aux_lemma => kernel_rfl))]; exact ⟨rfl, rfl⟩)
    (fun os started H enc _ => mvccTrims_lifted os started H enc)
#print axioms mvccTrims_holds
end Go.Proofs.Ytoldelocfmpccaa
