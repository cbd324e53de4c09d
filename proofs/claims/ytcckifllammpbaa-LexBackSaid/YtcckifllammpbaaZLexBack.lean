/-
  LexBack, proved: for every input the law returns true, and each argument reads afterwards as it read before. No condition.
-/
import Derived.Test.YtcckifllammpbaaKLexBack
import Derived.Test.YtcckifllammpbaaLexX4
namespace Go.Proofs.Ytcckifllammpbaa
open Go.RowKit Go.ChangeShapes Go.WideShapes Go.ChangeAt
theorem lexBack_named : Try.prog.funcNamed Rows.lexBackRow.func = some 5 := by kernel_rfl
theorem lexBack_lifted (os : Os) (started : os.Started) (H : Type) (enc : TypeId × Value → H) :
    ReturnsInHanded {} Try.checked os 5 .any (Rows.lexBackSpec.pre6 enc Try.prog Try.f5 Rows.lexBackRow.domain false) (Rows.lexBackSpec.post enc Try.prog Try.f5 false true false false) :=
  law_lift_s (C := Try.checked) 5 Try.f5 Rows.lexBackSpec started P_own P_laid (by as_aux_lemma => kernel_rfl) Try.func5 4 rfl Try.underlying4 rfl
    (fun ds h => by have h : ds.length = 2 := h; match ds, h with | [_, _], _ => rfl) (by as_aux_lemma => kernel_rfl)
    (ChangeSpec.witness6 (enc := enc) (C := Try.checked) false ⟨#[], #[.slice none 0 0, .bool false], []⟩ 8 (by as_aux_lemma => kernel_rfl) (by as_aux_lemma => kernel_rfl) (by as_aux_lemma => kernel_rfl) (by as_aux_lemma => kernel_rfl) (by as_aux_lemma => kernel_rfl)) lexBack_law
theorem lexBack_holds : Rows.LexBackSaid :=
  OpenClaim.holds_of_wide 5 Try.f5 rfl rfl rfl rfl rfl rfl rfl ⟨rfl, rfl, rfl, rfl, rfl⟩ rfl rfl rfl rfl rfl lexBack_named Try.func5 lexBack.closed
    (of_decide_eq_true (by as_aux_lemma => kernel_rfl)) (by unfold Func.isWrapper; rw [if_neg (of_decide_eq_false (by as_aux_lemma => kernel_rfl))]; exact ⟨rfl, rfl⟩)
    (fun os started H enc _ => lexBack_lifted os started H enc)
#print axioms lexBack_holds
end Go.Proofs.Ytcckifllammpbaa
