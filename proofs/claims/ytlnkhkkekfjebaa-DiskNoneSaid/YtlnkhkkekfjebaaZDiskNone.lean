/-
  DiskNone, proved: for every input the law returns true, and each argument reads afterwards as it read before. No condition.
-/
import Derived.Test.YtlnkhkkekfjebaaKDiskNone
import Derived.Test.YtlnkhkkekfjebaaDiskN
namespace Go.Proofs.Ytlnkhkkekfjebaa
open Go.RowKit Go.ChangeShapes Go.WideShapes Go.ChangeAt
theorem diskNone_named : Try.prog.funcNamed Rows.diskNoneRow.func = some 19 := by kernel_rfl
theorem diskNone_lifted (os : Os) (started : os.Started) (H : Type) (enc : TypeId × Value → H) :
    ReturnsInHanded {} Try.checked os 19 .any (Rows.diskNoneSpec.pre6 enc Try.prog Try.f19 Rows.diskNoneRow.domain false) (Rows.diskNoneSpec.post enc Try.prog Try.f19 false true false false) :=
  law_lift (C := Try.checked) 19 Try.f19 Rows.diskNoneSpec started P_own P_laid (by as_aux_lemma => kernel_rfl) Try.func19 4 rfl Try.underlying4 rfl
    (fun ds h => by have h : ds.length = 0 := h; match ds, h with | [], _ => rfl) (by as_aux_lemma => kernel_rfl)
    (ChangeSpec.witness6 (enc := enc) (C := Try.checked) false ⟨#[], #[], []⟩ 8 (by as_aux_lemma => kernel_rfl) (by as_aux_lemma => kernel_rfl) (by as_aux_lemma => kernel_rfl) (by as_aux_lemma => kernel_rfl) (by as_aux_lemma => kernel_rfl)) diskNone_law
theorem diskNone_holds : Rows.DiskNoneSaid :=
  OpenClaim.holds_of_wide 19 Try.f19 rfl rfl rfl rfl rfl rfl rfl ⟨rfl, rfl, rfl, rfl, rfl⟩ rfl rfl rfl rfl rfl diskNone_named Try.func19 diskNone.closed
    (of_decide_eq_true (by as_aux_lemma => kernel_rfl)) (by unfold Func.isWrapper; rw [if_neg (of_decide_eq_false (by as_aux_lemma => kernel_rfl))]; exact ⟨rfl, rfl⟩)
    (fun os started H enc _ => diskNone_lifted os started H enc)
#print axioms diskNone_holds
end Go.Proofs.Ytlnkhkkekfjebaa
