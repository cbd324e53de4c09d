/-
  MvccAll, proved: for every input the law returns true, and each argument reads afterwards as it read before. No condition.
-/
import Derived.Test.YtoldelocfmpccaaKMvccAll
import Derived.Test.YtoldelocfmpccaaMvZ7W
import Derived.Test.YtoldelocfmpccaaMvPO
namespace Go.Proofs.Ytoldelocfmpccaa
open Go.RowKit Go.ChangeShapes Go.WideShapes Go.ChangeAt
theorem mvccAll_named : Try.prog.funcNamed Rows.mvccAllRow.func = some 9 := by kernel_rfl
theorem mvccAll_lifted (os : Os) (started : os.Started) (H : Type) (enc : TypeId × Value → H) :
    ReturnsInHanded {} Try.checked os 9 .any (Rows.mvccAllSpec.pre6 enc Try.prog Try.f9 Rows.mvccAllRow.domain false) (Rows.mvccAllSpec.post enc Try.prog Try.f9 false true false false) :=
  law_lift (C := Try.checked) 9 Try.f9 Rows.mvccAllSpec started P_own P_laid (by as_aux_lemma => kernel_rfl) Try.func9 4 rfl Try.underlying4 rfl
    (fun ds h => by have h : ds.length = 6 := h; match ds, h with | [_, _, _, _, _, _], _ => rfl) (by as_aux_lemma => kernel_rfl)
    (ChangeSpec.witness6 (enc := enc) (C := Try.checked) false ⟨#[], #[.slice none 0 0, .string ⟨#[]⟩, .agg #[.int .i64 0, .int .i64 0], .agg #[.string ⟨#[]⟩, .string ⟨#[]⟩], .agg #[.int .i64 0, .int .i64 0, .int .i64 0, .int .i64 0], .int .i64 0], []⟩ 8 (by as_aux_lemma => kernel_rfl) (by as_aux_lemma => kernel_rfl) (by as_aux_lemma => kernel_rfl) (by as_aux_lemma => kernel_rfl) (by as_aux_lemma => kernel_rfl)) mvccAll_law
theorem mvccAll_holds : Rows.MvccAllSaid :=
  OpenClaim.holds_of_wide 9 Try.f9 rfl rfl rfl rfl rfl rfl rfl ⟨rfl, rfl, rfl, rfl, rfl⟩ rfl rfl rfl rfl rfl mvccAll_named Try.func9 mvccAll.closed
    (of_decide_eq_true (by as_aux_lemma => kernel_rfl)) (by unfold Func.isWrapper; rw [if_neg (of_decide_eq_false (by as_aux_lemma => kernel_rfl))]; exact ⟨rfl, rfl⟩)
    (fun os started H enc _ => mvccAll_lifted os started H enc)
#print axioms mvccAll_holds
end Go.Proofs.Ytoldelocfmpccaa
