/-
  WalPicks, proved: for every input the law returns true, and each argument reads afterwards as it read before. No condition.
-/
import Derived.Test.YtpjinngngbifoaaKWalPicks
import Derived.Test.YtpjinngngbifoaaWalZ4
namespace Go.Proofs.Ytpjinngngbifoaa
open Go.RowKit Go.ChangeShapes Go.WideShapes Go.ChangeAt
theorem walPicks_named : Try.prog.funcNamed Rows.walPicksRow.func = some 3 := by kernel_rfl
theorem walPicks_lifted (os : Os) (started : os.Started) (H : Type) (enc : TypeId × Value → H) :
    ReturnsInHanded {} Try.checked os 3 .any (Rows.walPicksSpec.pre6 enc Try.prog Try.f3 Rows.walPicksRow.domain false) (Rows.walPicksSpec.post enc Try.prog Try.f3 false true false false) :=
  law_lift (C := Try.checked) 3 Try.f3 Rows.walPicksSpec started P_own P_laid (by as_aux_lemma => kernel_rfl) Try.func3 4 rfl Try.underlying4 rfl
    (fun ds h => by have h : ds.length = 6 := h; match ds, h with | [_, _, _, _, _, _], _ => rfl) (by as_aux_lemma => kernel_rfl)
    (ChangeSpec.witness6 (enc := enc) (C := Try.checked) false ⟨#[], #[.slice none 0 0, .slice none 0 0, .int .u64 0, .int .u64 0, .slice none 0 0, .slice none 0 0], []⟩ 8 (by as_aux_lemma => kernel_rfl) (by as_aux_lemma => kernel_rfl) (by as_aux_lemma => kernel_rfl) (by as_aux_lemma => kernel_rfl) (by as_aux_lemma => kernel_rfl)) walPicks_law
theorem walPicks_holds : Rows.WalPicksSaid :=
  OpenClaim.holds_of_wide 3 Try.f3 rfl rfl rfl rfl rfl rfl rfl ⟨rfl, rfl, rfl, rfl, rfl⟩ rfl rfl rfl rfl rfl walPicks_named Try.func3 walPicks.closed
    (of_decide_eq_true (by as_aux_lemma => kernel_rfl)) (by unfold Func.isWrapper; rw [if_neg (of_decide_eq_false (by as_aux_lemma => kernel_rfl))]; exact ⟨rfl, rfl⟩)
    (fun os started H enc _ => walPicks_lifted os started H enc)
#print axioms walPicks_holds
end Go.Proofs.Ytpjinngngbifoaa
