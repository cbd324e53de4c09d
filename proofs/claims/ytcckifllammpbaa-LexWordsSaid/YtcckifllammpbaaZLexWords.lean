/-
  LexWords, proved: for every input the law returns true, and each argument reads afterwards as it read before. No condition.
-/
import Derived.Test.YtcckifllammpbaaKLexWords
import Derived.Test.YtcckifllammpbaaLexX1
namespace Go.Proofs.Ytcckifllammpbaa
open Go.RowKit Go.ChangeShapes Go.WideShapes Go.ChangeAt
theorem lexWords_named : Try.prog.funcNamed Rows.lexWordsRow.func = some 4 := by kernel_rfl
theorem lexWords_lifted (os : Os) (started : os.Started) (H : Type) (enc : TypeId × Value → H) :
    ReturnsInHanded {} Try.checked os 4 .any (Rows.lexWordsSpec.pre6 enc Try.prog Try.f4 Rows.lexWordsRow.domain false) (Rows.lexWordsSpec.post enc Try.prog Try.f4 false true false false) :=
  law_lift_s (C := Try.checked) 4 Try.f4 Rows.lexWordsSpec started P_own P_laid (by as_aux_lemma => kernel_rfl) Try.func4 4 rfl Try.underlying4 rfl
    (fun ds h => by have h : ds.length = 1 := h; match ds, h with | [_], _ => rfl) (by as_aux_lemma => kernel_rfl)
    (ChangeSpec.witness6 (enc := enc) (C := Try.checked) false ⟨#[], #[.string ⟨#[]⟩], []⟩ 8 (by as_aux_lemma => kernel_rfl) (by as_aux_lemma => kernel_rfl) (by as_aux_lemma => kernel_rfl) (by as_aux_lemma => kernel_rfl) (by as_aux_lemma => kernel_rfl)) lexWords_law
theorem lexWords_holds : Rows.LexWordsSaid :=
  OpenClaim.holds_of_wide 4 Try.f4 rfl rfl rfl rfl rfl rfl rfl ⟨rfl, rfl, rfl, rfl, rfl⟩ rfl rfl rfl rfl rfl lexWords_named Try.func4 lexWords.closed
    (of_decide_eq_true (by as_aux_lemma => kernel_rfl)) (by unfold Func.isWrapper; rw [if_neg (of_decide_eq_false (by as_aux_lemma => kernel_rfl))]; exact ⟨rfl, rfl⟩)
    (fun os started H enc _ => lexWords_lifted os started H enc)
#print axioms lexWords_holds
end Go.Proofs.Ytcckifllammpbaa
