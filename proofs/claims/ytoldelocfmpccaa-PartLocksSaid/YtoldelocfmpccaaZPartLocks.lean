/-
  PartLocks, proved: for every input the law returns true, and each argument reads afterwards as it read before. No condition.
-/
import Derived.Test.YtoldelocfmpccaaKPartLocks
import Derived.Test.YtoldelocfmpccaaPaZ6W
import Derived.Test.YtoldelocfmpccaaMvPO
import Derived.Test.YtoldelocfmpccaaV1
namespace Go.Proofs.Ytoldelocfmpccaa
open Go.RowKit Go.ChangeShapes Go.WideShapes Go.ChangeAt
theorem partLocks_named : Try.prog.funcNamed Rows.partLocksRow.func = some 17 := by kernel_rfl
theorem partLocks_lifted (os : Os) (started : os.Started) (H : Type) (enc : TypeId × Value → H) :
    ReturnsInHanded {} Try.checked os 17 .any (Rows.partLocksSpec.pre6 enc Try.prog Try.f17 Rows.partLocksRow.domain false) (Rows.partLocksSpec.post enc Try.prog Try.f17 false true false false) :=
  law_lift (C := Try.checked) 17 Try.f17 Rows.partLocksSpec started P_own P_laid (by as_aux_lemma => kernel_rfl) Try.func17 4 rfl Try.underlying4 rfl
    (fun ds h => by have h : ds.length = 1 := h; match ds, h with | [_], _ => rfl) (by as_aux_lemma => kernel_rfl)
    (ChangeSpec.witness6 (enc := enc) (C := Try.checked) false ⟨#[], #[.slice none 0 0], []⟩ 8 (by as_aux_lemma => kernel_rfl) (by as_aux_lemma => kernel_rfl) (by as_aux_lemma => kernel_rfl) (by as_aux_lemma => kernel_rfl) (by as_aux_lemma => kernel_rfl)) partLocks_law
theorem partLocks_holds : Rows.PartLocksSaid :=
  OpenClaim.holds_of_wide 17 Try.f17 rfl rfl rfl rfl rfl rfl rfl ⟨rfl, rfl, rfl, rfl, rfl⟩ rfl rfl rfl rfl rfl partLocks_named Try.func17 partLocks.closed
    (of_decide_eq_true (by as_aux_lemma => kernel_rfl)) (by unfold Func.isWrapper; rw [if_neg (of_decide_eq_false (by as_aux_lemma => kernel_rfl))]; exact ⟨rfl, rfl⟩)
    (fun os started H enc _ => partLocks_lifted os started H enc)
#print axioms partLocks_holds
end Go.Proofs.Ytoldelocfmpccaa
