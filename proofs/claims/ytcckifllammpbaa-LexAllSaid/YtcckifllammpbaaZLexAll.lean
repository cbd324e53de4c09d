/-
  LexAll, proved: for every input the law returns true, and each argument reads afterwards as it read before. No condition.
-/
import Derived.Test.YtcckifllammpbaaKLexAll
import Derived.Test.YtcckifllammpbaaLexX2
namespace Go.Proofs.Ytcckifllammpbaa
open Go.RowKit Go.ChangeShapes Go.WideShapes Go.ChangeAt
theorem lexAll_named : Try.prog.funcNamed Rows.lexAllRow.func = some 3 := by kernel_rfl
theorem lexAll_lifted (os : Os) (started : os.Started) (H : Type) (enc : TypeId × Value → H) :
    ReturnsInHanded {} Try.checked os 3 .any (Rows.lexAllSpec.pre6 enc Try.prog Try.f3 Rows.lexAllRow.domain false) (Rows.lexAllSpec.post enc Try.prog Try.f3 false true false false) :=
  law_lift_s (C := Try.checked) 3 Try.f3 Rows.lexAllSpec started P_own P_laid (by as_aux_lemma => kernel_rfl) Try.func3 4 rfl Try.underlying4 rfl
    (fun ds h => by have h : ds.length = 1 := h; match ds, h with | [_], _ => rfl) (by as_aux_lemma => kernel_rfl)
    (ChangeSpec.witness6 (enc := enc) (C := Try.checked) false ⟨#[], #[.string ⟨#[]⟩], []⟩ 8 (by as_aux_lemma => kernel_rfl) (by as_aux_lemma => kernel_rfl) (by as_aux_lemma => kernel_rfl) (by as_aux_lemma => kernel_rfl) (by as_aux_lemma => kernel_rfl)) lexAll_law
theorem lexAll_holds : Rows.LexAllSaid :=
  OpenClaim.holds_of_wide 3 Try.f3 rfl rfl rfl rfl rfl rfl rfl ⟨rfl, rfl, rfl, rfl, rfl⟩ rfl rfl rfl rfl rfl lexAll_named Try.func3 lexAll.closed
    (of_decide_eq_true (by as_aux_lemma => kernel_rfl)) (by unfold Func.isWrapper; rw [if_neg (of_decide_eq_false (by as_aux_lemma => kernel_rfl))]; exact ⟨rfl, rfl⟩)
    (fun os started H enc _ => lexAll_lifted os started H enc)
#print axioms lexAll_holds
end Go.Proofs.Ytcckifllammpbaa
