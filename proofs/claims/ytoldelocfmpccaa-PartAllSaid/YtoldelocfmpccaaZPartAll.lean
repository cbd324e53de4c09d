/-
  PartAll, proved: for every input the law returns true, and each argument reads afterwards as it read before. No condition.
-/
import Derived.Test.YtoldelocfmpccaaKPartAll
import Derived.Test.YtoldelocfmpccaaPaZAW
import Derived.Test.YtoldelocfmpccaaMvPO
import Derived.Test.YtoldelocfmpccaaU1
namespace Go.Proofs.Ytoldelocfmpccaa
open Go.RowKit Go.ChangeShapes Go.WideShapes Go.ChangeAt
theorem partAll_named : Try.prog.funcNamed Rows.partAllRow.func = some 11 := by kernel_rfl
theorem partAll_lifted (os : Os) (started : os.Started) (H : Type) (enc : TypeId × Value → H) :
    ReturnsInHanded {} Try.checked os 11 .any (Rows.partAllSpec.pre6 enc Try.prog Try.f11 Rows.partAllRow.domain false) (Rows.partAllSpec.post enc Try.prog Try.f11 false true false false) :=
  law_lift (C := Try.checked) 11 Try.f11 Rows.partAllSpec started P_own P_laid (by as_aux_lemma => kernel_rfl) Try.func11 4 rfl Try.underlying4 rfl
    (fun ds h => by have h : ds.length = 2 := h; match ds, h with | [_, _], _ => rfl) (by as_aux_lemma => kernel_rfl)
    (ChangeSpec.witness6 (enc := enc) (C := Try.checked) false ⟨#[], #[.slice none 0 0, .slice none 0 0], []⟩ 8 (by as_aux_lemma => kernel_rfl) (by as_aux_lemma => kernel_rfl) (by as_aux_lemma => kernel_rfl) (by as_aux_lemma => kernel_rfl) (by as_aux_lemma => kernel_rfl)) partAll_law
theorem partAll_holds : Rows.PartAllSaid :=
  OpenClaim.holds_of_wide 11 Try.f11 rfl rfl rfl rfl rfl rfl rfl ⟨rfl, rfl, rfl, rfl, rfl⟩ rfl rfl rfl rfl rfl partAll_named Try.func11 partAll.closed
    (of_decide_eq_true (by as_aux_lemma => kernel_rfl)) (by unfold Func.isWrapper; rw [if_neg (of_decide_eq_false (by as_aux_lemma => kernel_rfl))]; exact ⟨rfl, rfl⟩)
    (fun os started H enc _ => partAll_lifted os started H enc)
#print axioms partAll_holds
end Go.Proofs.Ytoldelocfmpccaa
