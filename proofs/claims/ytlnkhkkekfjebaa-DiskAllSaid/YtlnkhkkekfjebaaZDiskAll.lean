/-
  DiskAll, proved: for every input the law returns true, and each argument reads afterwards as it read before. No condition.
-/
import Derived.Test.YtlnkhkkekfjebaaKDiskAll
import Derived.Test.YtlnkhkkekfjebaaDiskA
namespace Go.Proofs.Ytlnkhkkekfjebaa
open Go.RowKit Go.ChangeShapes Go.WideShapes Go.ChangeAt
theorem diskAll_named : Try.prog.funcNamed Rows.diskAllRow.func = some 10 := by kernel_rfl
theorem diskAll_lifted (os : Os) (started : os.Started) (H : Type) (enc : TypeId × Value → H) :
    ReturnsInHanded {} Try.checked os 10 .any (Rows.diskAllSpec.pre6 enc Try.prog Try.f10 Rows.diskAllRow.domain false) (Rows.diskAllSpec.post enc Try.prog Try.f10 false true false false) :=
  law_lift (C := Try.checked) 10 Try.f10 Rows.diskAllSpec started P_own P_laid (by as_aux_lemma => kernel_rfl) Try.func10 4 rfl Try.underlying4 rfl
    (fun ds h => by have h : ds.length = 1 := h; match ds, h with | [_], _ => rfl) (by as_aux_lemma => kernel_rfl)
    (ChangeSpec.witness6 (enc := enc) (C := Try.checked) false ⟨#[], #[.slice none 0 0], []⟩ 8 (by as_aux_lemma => kernel_rfl) (by as_aux_lemma => kernel_rfl) (by as_aux_lemma => kernel_rfl) (by as_aux_lemma => kernel_rfl) (by as_aux_lemma => kernel_rfl)) diskAll_law
theorem diskAll_holds : Rows.DiskAllSaid :=
  OpenClaim.holds_of_wide 10 Try.f10 rfl rfl rfl rfl rfl rfl rfl ⟨rfl, rfl, rfl, rfl, rfl⟩ rfl rfl rfl rfl rfl diskAll_named Try.func10 diskAll.closed
    (of_decide_eq_true (by as_aux_lemma => kernel_rfl)) (by unfold Func.isWrapper; rw [if_neg (of_decide_eq_false (by as_aux_lemma => kernel_rfl))]; exact ⟨rfl, rfl⟩)
    (fun os started H enc _ => diskAll_lifted os started H enc)
#print axioms diskAll_holds
end Go.Proofs.Ytlnkhkkekfjebaa
