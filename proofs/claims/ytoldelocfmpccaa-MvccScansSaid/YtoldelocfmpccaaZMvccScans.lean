/-
  MvccScans, proved: for every input the law returns true, and each argument reads afterwards as it read before. No condition.
-/
import Derived.Test.YtoldelocfmpccaaKMvccScans
import Derived.Test.YtoldelocfmpccaaMvZ6W
import Derived.Test.YtoldelocfmpccaaMvPO
namespace Go.Proofs.Ytoldelocfmpccaa
open Go.RowKit Go.ChangeShapes Go.WideShapes Go.ChangeAt
theorem mvccScans_named : Try.prog.funcNamed Rows.mvccScansRow.func = some 8 := by kernel_rfl
theorem mvccScans_lifted (os : Os) (started : os.Started) (H : Type) (enc : TypeId × Value → H) :
    ReturnsInHanded {} Try.checked os 8 .any (Rows.mvccScansSpec.pre6 enc Try.prog Try.f8 Rows.mvccScansRow.domain false) (Rows.mvccScansSpec.post enc Try.prog Try.f8 false true false false) :=
  law_lift (C := Try.checked) 8 Try.f8 Rows.mvccScansSpec started P_own P_laid (by as_aux_lemma => kernel_rfl) Try.func8 4 rfl Try.underlying4 rfl
    (fun ds h => by have h : ds.length = 3 := h; match ds, h with | [_, _, _], _ => rfl) (by as_aux_lemma => kernel_rfl)
    (ChangeSpec.witness6 (enc := enc) (C := Try.checked) false ⟨#[], #[.slice none 0 0, .agg #[.string ⟨#[]⟩, .string ⟨#[]⟩], .agg #[.int .i64 0, .int .i64 0]], []⟩ 8 (by as_aux_lemma => kernel_rfl) (by as_aux_lemma => kernel_rfl) (by as_aux_lemma => kernel_rfl) (by as_aux_lemma => kernel_rfl) (by as_aux_lemma => kernel_rfl)) mvccScans_law
theorem mvccScans_holds : Rows.MvccScansSaid :=
  OpenClaim.holds_of_wide 8 Try.f8 rfl rfl rfl rfl rfl rfl rfl ⟨rfl, rfl, rfl, rfl, rfl⟩ rfl rfl rfl rfl rfl mvccScans_named Try.func8 mvccScans.closed
    (of_decide_eq_true (by as_aux_lemma => kernel_rfl)) (by unfold Func.isWrapper; rw [if_neg (of_decide_eq_false (by as_aux_lemma => kernel_rfl))]; exact ⟨rfl, rfl⟩)
    (fun os started H enc _ => mvccScans_lifted os started H enc)
#print axioms mvccScans_holds
end Go.Proofs.Ytoldelocfmpccaa
