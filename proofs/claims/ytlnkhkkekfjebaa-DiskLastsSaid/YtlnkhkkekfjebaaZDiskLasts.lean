/-
  DiskLasts, proved: for every input the law returns true, and each argument reads afterwards as it read before. No condition.
-/
import Derived.Test.YtlnkhkkekfjebaaKDiskLasts
import Derived.Test.YtlnkhkkekfjebaaDiskL
namespace Go.Proofs.Ytlnkhkkekfjebaa
open Go.RowKit Go.ChangeShapes Go.WideShapes Go.ChangeAt
theorem diskLasts_named : Try.prog.funcNamed Rows.diskLastsRow.func = some 9 := by kernel_rfl
theorem diskLasts_lifted (os : Os) (started : os.Started) (H : Type) (enc : TypeId × Value → H) :
    ReturnsInHanded {} Try.checked os 9 .any (Rows.diskLastsSpec.pre6 enc Try.prog Try.f9 Rows.diskLastsRow.domain false) (Rows.diskLastsSpec.post enc Try.prog Try.f9 false true false false) :=
  law_lift (C := Try.checked) 9 Try.f9 Rows.diskLastsSpec started P_own P_laid (by as_aux_lemma => kernel_rfl) Try.func9 4 rfl Try.underlying4 rfl
    (fun ds h => by have h : ds.length = 3 := h; match ds, h with | [_, _, _], _ => rfl) (by as_aux_lemma => kernel_rfl)
    (ChangeSpec.witness6 (enc := enc) (C := Try.checked) false ⟨#[], #[.int .i64 0, .slice none 0 0, .slice none 0 0], []⟩ 8 (by as_aux_lemma => kernel_rfl) (by as_aux_lemma => kernel_rfl) (by as_aux_lemma => kernel_rfl) (by as_aux_lemma => kernel_rfl) (by as_aux_lemma => kernel_rfl)) diskLasts_law
theorem diskLasts_holds : Rows.DiskLastsSaid :=
  OpenClaim.holds_of_wide 9 Try.f9 rfl rfl rfl rfl rfl rfl rfl ⟨rfl, rfl, rfl, rfl, rfl⟩ rfl rfl rfl rfl rfl diskLasts_named Try.func9 diskLasts.closed
    (of_decide_eq_true (by as_aux_lemma => kernel_rfl)) (by unfold Func.isWrapper; rw [if_neg (of_decide_eq_false (by as_aux_lemma => kernel_rfl))]; exact ⟨rfl, rfl⟩)
    (fun os started H enc _ => diskLasts_lifted os started H enc)
#print axioms diskLasts_holds
end Go.Proofs.Ytlnkhkkekfjebaa
