/-
  WalLasts, proved: for every input the law returns true, and each argument reads afterwards as it read before. No condition.
-/
import Derived.Test.YtpjinngngbifoaaKWalLasts
import Derived.Test.YtpjinngngbifoaaWalZ5
namespace Go.Proofs.Ytpjinngngbifoaa
open Go.RowKit Go.ChangeShapes Go.WideShapes Go.ChangeAt
theorem walLasts_named : Try.prog.funcNamed Rows.walLastsRow.func = some 5 := by kernel_rfl
theorem walLasts_lifted (os : Os) (started : os.Started) (H : Type) (enc : TypeId × Value → H) :
    ReturnsInHanded {} Try.checked os 5 .any (Rows.walLastsSpec.pre6 enc Try.prog Try.f5 Rows.walLastsRow.domain false) (Rows.walLastsSpec.post enc Try.prog Try.f5 false true false false) :=
  law_lift (C := Try.checked) 5 Try.f5 Rows.walLastsSpec started P_own P_laid (by as_aux_lemma => kernel_rfl) Try.func5 4 rfl Try.underlying4 rfl
    (fun ds h => by have h : ds.length = 5 := h; match ds, h with | [_, _, _, _, _], _ => rfl) (by as_aux_lemma => kernel_rfl)
    (ChangeSpec.witness6 (enc := enc) (C := Try.checked) false ⟨#[], #[.slice none 0 0, .int .i64 0, .slice none 0 0, .int .i64 0, .slice none 0 0], []⟩ 8 (by as_aux_lemma => kernel_rfl) (by as_aux_lemma => kernel_rfl) (by as_aux_lemma => kernel_rfl) (by as_aux_lemma => kernel_rfl) (by as_aux_lemma => kernel_rfl)) walLasts_law
theorem walLasts_holds : Rows.WalLastsSaid :=
  OpenClaim.holds_of_wide 5 Try.f5 rfl rfl rfl rfl rfl rfl rfl ⟨rfl, rfl, rfl, rfl, rfl⟩ rfl rfl rfl rfl rfl walLasts_named Try.func5 walLasts.closed
    (of_decide_eq_true (by as_aux_lemma => kernel_rfl)) (by unfold Func.isWrapper; rw [if_neg (of_decide_eq_false (by as_aux_lemma => kernel_rfl))]; exact ⟨rfl, rfl⟩)
    (fun os started H enc _ => walLasts_lifted os started H enc)
#print axioms walLasts_holds
end Go.Proofs.Ytpjinngngbifoaa
