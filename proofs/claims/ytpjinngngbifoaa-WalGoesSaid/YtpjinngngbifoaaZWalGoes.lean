/-
  WalGoes, proved: for every input the law returns true, and each argument reads afterwards as it read before. No condition.
-/
import Derived.Test.YtpjinngngbifoaaKWalGoes
import Derived.Test.YtpjinngngbifoaaWalZ1
namespace Go.Proofs.Ytpjinngngbifoaa
open Go.RowKit Go.ChangeShapes Go.WideShapes Go.ChangeAt
theorem walGoes_named : Try.prog.funcNamed Rows.walGoesRow.func = some 6 := by kernel_rfl
theorem walGoes_lifted (os : Os) (started : os.Started) (H : Type) (enc : TypeId × Value → H) :
    ReturnsInHanded {} Try.checked os 6 .any (Rows.walGoesSpec.pre6 enc Try.prog Try.f6 Rows.walGoesRow.domain false) (Rows.walGoesSpec.post enc Try.prog Try.f6 false true false false) :=
  law_lift (C := Try.checked) 6 Try.f6 Rows.walGoesSpec started P_own P_laid (by as_aux_lemma => kernel_rfl) Try.func6 4 rfl Try.underlying4 rfl
    (fun ds h => by have h : ds.length = 2 := h; match ds, h with | [_, _], _ => rfl) (by as_aux_lemma => kernel_rfl)
    (ChangeSpec.witness6 (enc := enc) (C := Try.checked) false ⟨#[], #[.slice none 0 0, .slice none 0 0], []⟩ 8 (by as_aux_lemma => kernel_rfl) (by as_aux_lemma => kernel_rfl) (by as_aux_lemma => kernel_rfl) (by as_aux_lemma => kernel_rfl) (by as_aux_lemma => kernel_rfl)) walGoes_law
theorem walGoes_holds : Rows.WalGoesSaid :=
  OpenClaim.holds_of_wide 6 Try.f6 rfl rfl rfl rfl rfl rfl rfl ⟨rfl, rfl, rfl, rfl, rfl⟩ rfl rfl rfl rfl rfl walGoes_named Try.func6 walGoes.closed
    (of_decide_eq_true (by as_aux_lemma => kernel_rfl)) (by unfold Func.isWrapper; rw [if_neg (of_decide_eq_false (by as_aux_lemma => kernel_rfl))]; exact ⟨rfl, rfl⟩)
    (fun os started H enc _ => walGoes_lifted os started H enc)
#print axioms walGoes_holds
end Go.Proofs.Ytpjinngngbifoaa
