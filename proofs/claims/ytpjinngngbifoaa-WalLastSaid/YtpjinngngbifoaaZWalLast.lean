/-
  WalLast, proved: for every input the law returns true, and each argument reads afterwards as it read before. No condition.
-/
import Derived.Test.YtpjinngngbifoaaKWalLast
import Derived.Test.YtpjinngngbifoaaWalZ3
namespace Go.Proofs.Ytpjinngngbifoaa
open Go.RowKit Go.ChangeShapes Go.WideShapes Go.ChangeAt
theorem walLast_named : Try.prog.funcNamed Rows.walLastRow.func = some 4 := by kernel_rfl
theorem walLast_lifted (os : Os) (started : os.Started) (H : Type) (enc : TypeId × Value → H) :
    ReturnsInHanded {} Try.checked os 4 .any (Rows.walLastSpec.pre6 enc Try.prog Try.f4 Rows.walLastRow.domain false) (Rows.walLastSpec.post enc Try.prog Try.f4 false true false false) :=
  law_lift (C := Try.checked) 4 Try.f4 Rows.walLastSpec started P_own P_laid (by as_aux_lemma => kernel_rfl) Try.func4 4 rfl Try.underlying4 rfl
    (fun ds h => by have h : ds.length = 3 := h; match ds, h with | [_, _, _], _ => rfl) (by as_aux_lemma => kernel_rfl)
    (ChangeSpec.witness6 (enc := enc) (C := Try.checked) false ⟨#[], #[.int .u8 0, .slice none 0 0, .bool false], []⟩ 8 (by as_aux_lemma => kernel_rfl) (by as_aux_lemma => kernel_rfl) (by as_aux_lemma => kernel_rfl) (by as_aux_lemma => kernel_rfl) (by as_aux_lemma => kernel_rfl)) walLast_law
theorem walLast_holds : Rows.WalLastSaid :=
  OpenClaim.holds_of_wide 4 Try.f4 rfl rfl rfl rfl rfl rfl rfl ⟨rfl, rfl, rfl, rfl, rfl⟩ rfl rfl rfl rfl rfl walLast_named Try.func4 walLast.closed
    (of_decide_eq_true (by as_aux_lemma => kernel_rfl)) (by unfold Func.isWrapper; rw [if_neg (of_decide_eq_false (by as_aux_lemma => kernel_rfl))]; exact ⟨rfl, rfl⟩)
    (fun os started H enc _ => walLast_lifted os started H enc)
#print axioms walLast_holds
end Go.Proofs.Ytpjinngngbifoaa
