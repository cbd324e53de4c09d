/-
  PartReads, proved: for every input the law returns true, and each argument reads afterwards as it read before. No condition.
-/
import Derived.Test.YtoldelocfmpccaaKPartReads
import Derived.Test.YtoldelocfmpccaaPaZ8W
import Derived.Test.YtoldelocfmpccaaMvPO
import Derived.Test.YtoldelocfmpccaaV1
namespace Go.Proofs.Ytoldelocfmpccaa
open Go.RowKit Go.ChangeShapes Go.WideShapes Go.ChangeAt
theorem partReads_named : Try.prog.funcNamed Rows.partReadsRow.func = some 13 := by kernel_rfl
theorem partReads_lifted (os : Os) (started : os.Started) (H : Type) (enc : TypeId × Value → H) :
    ReturnsInHanded {} Try.checked os 13 .any (Rows.partReadsSpec.pre6 enc Try.prog Try.f13 Rows.partReadsRow.domain false) (Rows.partReadsSpec.post enc Try.prog Try.f13 false true false false) :=
  law_lift (C := Try.checked) 13 Try.f13 Rows.partReadsSpec started P_own P_laid (by as_aux_lemma => kernel_rfl) Try.func13 4 rfl Try.underlying4 rfl
    (fun ds h => by have h : ds.length = 2 := h; match ds, h with | [_, _], _ => rfl) (by as_aux_lemma => kernel_rfl)
    (ChangeSpec.witness6 (enc := enc) (C := Try.checked) false ⟨#[], #[.slice none 0 0, .int .i64 0], []⟩ 8 (by as_aux_lemma => kernel_rfl) (by as_aux_lemma => kernel_rfl) (by as_aux_lemma => kernel_rfl) (by as_aux_lemma => kernel_rfl) (by as_aux_lemma => kernel_rfl)) partReads_law
theorem partReads_holds : Rows.PartReadsSaid :=
  OpenClaim.holds_of_wide 13 Try.f13 rfl rfl rfl rfl rfl rfl rfl ⟨rfl, rfl, rfl, rfl, rfl⟩ rfl rfl rfl rfl rfl partReads_named Try.func13 partReads.closed
    (of_decide_eq_true (by as_aux_lemma => kernel_rfl)) (by unfold Func.isWrapper; rw [if_neg (of_decide_eq_false (by as_aux_lemma => kernel_rfl))]; exact ⟨rfl, rfl⟩)
    (fun os started H enc _ => partReads_lifted os started H enc)
#print axioms partReads_holds
end Go.Proofs.Ytoldelocfmpccaa
