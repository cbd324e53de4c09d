/-
  WalAll, proved: for every input the law returns true, and each argument reads afterwards as it read before. No condition.
-/
import Derived.Test.YtpjinngngbifoaaKWalAll
import Derived.Test.YtpjinngngbifoaaWalZ6W
import Derived.Test.YtpjinngngbifoaaMvPO
namespace Go.Proofs.Ytpjinngngbifoaa
open Go.RowKit Go.ChangeShapes Go.WideShapes Go.ChangeAt
theorem walAll_named : Try.prog.funcNamed Rows.walAllRow.func = some 7 := by kernel_rfl
theorem walAll_lifted (os : Os) (started : os.Started) (H : Type) (enc : TypeId × Value → H) :
    ReturnsInHanded {} Try.checked os 7 .any (Rows.walAllSpec.pre6 enc Try.prog Try.f7 Rows.walAllRow.domain false) (Rows.walAllSpec.post enc Try.prog Try.f7 false true false false) :=
  law_lift (C := Try.checked) 7 Try.f7 Rows.walAllSpec started P_own P_laid (by as_aux_lemma => kernel_rfl) Try.func7 4 rfl Try.underlying4 rfl
    (fun ds h => by have h : ds.length = 1 := h; match ds, h with | [_], _ => rfl) (by as_aux_lemma => kernel_rfl)
    (ChangeSpec.witness6 (enc := enc) (C := Try.checked) false ⟨#[], #[.slice none 0 0], []⟩ 8 (by as_aux_lemma => kernel_rfl) (by as_aux_lemma => kernel_rfl) (by as_aux_lemma => kernel_rfl) (by as_aux_lemma => kernel_rfl) (by as_aux_lemma => kernel_rfl)) walAll_law
theorem walAll_holds : Rows.WalAllSaid :=
  OpenClaim.holds_of_wide 7 Try.f7 rfl rfl rfl rfl rfl rfl rfl ⟨rfl, rfl, rfl, rfl, rfl⟩ rfl rfl rfl rfl rfl walAll_named Try.func7 walAll.closed
    (of_decide_eq_true (by as_aux_lemma => kernel_rfl)) (by unfold Func.isWrapper; rw [if_neg (of_decide_eq_false (by as_aux_lemma => kernel_rfl))]; exact ⟨rfl, rfl⟩)
    (fun os started H enc _ => walAll_lifted os started H enc)
#print axioms walAll_holds
end Go.Proofs.Ytpjinngngbifoaa
