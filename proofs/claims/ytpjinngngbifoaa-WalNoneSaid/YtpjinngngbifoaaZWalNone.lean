/-
  WalNone, proved: for every input the law returns true, and each argument reads afterwards as it read before. No condition.
-/
import Derived.Test.YtpjinngngbifoaaKWalNone
import Derived.Test.YtpjinngngbifoaaWalZ2
namespace Go.Proofs.Ytpjinngngbifoaa
open Go.RowKit Go.ChangeShapes Go.WideShapes Go.ChangeAt
theorem walNone_named : Try.prog.funcNamed Rows.walNoneRow.func = some 8 := by kernel_rfl
theorem walNone_lifted (os : Os) (started : os.Started) (H : Type) (enc : TypeId × Value → H) :
    ReturnsInHanded {} Try.checked os 8 .any (Rows.walNoneSpec.pre6 enc Try.prog Try.f8 Rows.walNoneRow.domain false) (Rows.walNoneSpec.post enc Try.prog Try.f8 false true false false) :=
  law_lift (C := Try.checked) 8 Try.f8 Rows.walNoneSpec started P_own P_laid (by as_aux_lemma => kernel_rfl) Try.func8 4 rfl Try.underlying4 rfl
    (fun ds h => by have h : ds.length = 0 := h; match ds, h with | [], _ => rfl) (by as_aux_lemma => kernel_rfl)
    (ChangeSpec.witness6 (enc := enc) (C := Try.checked) false ⟨#[], #[], []⟩ 8 (by as_aux_lemma => kernel_rfl) (by as_aux_lemma => kernel_rfl) (by as_aux_lemma => kernel_rfl) (by as_aux_lemma => kernel_rfl) (by as_aux_lemma => kernel_rfl)) walNone_law
theorem walNone_holds : Rows.WalNoneSaid :=
  OpenClaim.holds_of_wide 8 Try.f8 rfl rfl rfl rfl rfl rfl rfl ⟨rfl, rfl, rfl, rfl, rfl⟩ rfl rfl rfl rfl rfl walNone_named Try.func8 walNone.closed
    (of_decide_eq_true (by as_aux_lemma => kernel_rfl)) (by unfold Func.isWrapper; rw [if_neg (of_decide_eq_false (by as_aux_lemma => kernel_rfl))]; exact ⟨rfl, rfl⟩)
    (fun os started H enc _ => walNone_lifted os started H enc)
#print axioms walNone_holds
end Go.Proofs.Ytpjinngngbifoaa
