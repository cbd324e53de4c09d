/-
  DiskArmed, proved: for every input the law returns true, and each argument reads afterwards as it read before. No condition.
-/
import Derived.Test.YtlnkhkkekfjebaaKDiskArmed
import Derived.Test.YtlnkhkkekfjebaaDiskR
namespace Go.Proofs.Ytlnkhkkekfjebaa
open Go.RowKit Go.ChangeShapes Go.WideShapes Go.ChangeAt
theorem diskArmed_named : Try.prog.funcNamed Rows.diskArmedRow.func = some 11 := by kernel_rfl
theorem diskArmed_lifted (os : Os) (started : os.Started) (H : Type) (enc : TypeId × Value → H) :
    ReturnsInHanded {} Try.checked os 11 .any (Rows.diskArmedSpec.pre6 enc Try.prog Try.f11 Rows.diskArmedRow.domain false) (Rows.diskArmedSpec.post enc Try.prog Try.f11 false true false false) :=
  law_lift (C := Try.checked) 11 Try.f11 Rows.diskArmedSpec started P_own P_laid (by as_aux_lemma => kernel_rfl) Try.func11 4 rfl Try.underlying4 rfl
    (fun ds h => by have h : ds.length = 2 := h; match ds, h with | [_, _], _ => rfl) (by as_aux_lemma => kernel_rfl)
    (ChangeSpec.witness6 (enc := enc) (C := Try.checked) false ⟨#[], #[.int .i64 0, .slice none 0 0], []⟩ 8 (by as_aux_lemma => kernel_rfl) (by as_aux_lemma => kernel_rfl) (by as_aux_lemma => kernel_rfl) (by as_aux_lemma => kernel_rfl) (by as_aux_lemma => kernel_rfl)) diskArmed_law
theorem diskArmed_holds : Rows.DiskArmedSaid :=
  OpenClaim.holds_of_wide 11 Try.f11 rfl rfl rfl rfl rfl rfl rfl ⟨rfl, rfl, rfl, rfl, rfl⟩ rfl rfl rfl rfl rfl diskArmed_named Try.func11 diskArmed.closed
    (of_decide_eq_true (by as_aux_lemma => kernel_rfl)) (by unfold Func.isWrapper; rw [if_neg (of_decide_eq_false (by as_aux_lemma => kernel_rfl))]; exact ⟨rfl, rfl⟩)
    (fun os started H enc _ => diskArmed_lifted os started H enc)
#print axioms diskArmed_holds
end Go.Proofs.Ytlnkhkkekfjebaa
