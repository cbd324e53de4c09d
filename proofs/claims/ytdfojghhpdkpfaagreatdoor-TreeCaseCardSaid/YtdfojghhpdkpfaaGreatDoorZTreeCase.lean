/-
  TreeCase's tied card, proved: for every input the law returns true, and each argument reads afterwards as it read before. Condition: the listed package-level variables hold what the program's text lays (the card ties this).
-/
import Derived.Test.YtdfojghhpdkpfaaGreatDoorKTreeCase
import Derived.Test.YtdfojghhpdkpfaaGreatDoorCards
import Derived.Test.YtdfojghhpdkpfaaGreatDoorTie
import Derived.SevenTiedAt
import Derived.Test.YtdfojghhpdkpfaaGreatDoorTrL4W
import Derived.Test.YtdfojghhpdkpfaaGreatDoorA12
import Derived.Test.YtdfojghhpdkpfaaGreatDoorMvPO
namespace Go.Proofs.YtdfojghhpdkpfaaGreatDoor
open Go.RowKit Go.ChangeShapes Go.WideShapes Go.ChangeAt
theorem treeCase_named : Tryz.prog.funcNamed Rows.treeCaseRow.func = some 8 := by kernel_rfl
theorem treeCase_nohand : (Rows.treeCaseRow.laid.all fun x => x.2.handleName?.isNone) = true := by kernel_rfl
theorem treeCase_lifted (os : Os) (started : os.Started) (H : Type) (enc : TypeId × Value → H) :
    ReturnsInHanded {} Tryz.checked os 8 .any (fun w args => (Rows.treeCaseSpec.pre enc Tryz.prog Tryz.f8 Rows.treeCaseRow.domain false w args ∧ laidMetH Tryz.prog Rows.treeCaseRow.laid w) ∧ sizedMet enc Tryz.prog Tryz.f8 (OpenSpec.ofChange Rows.treeCaseSpec) false w args) (Rows.treeCaseSpec.post enc Tryz.prog Tryz.f8 false true false false) :=
  law_lift_c (C := Tryz.checked) 8 Tryz.f8 Rows.treeCaseSpec Rows.treeCaseRow.laid started P_own P_laid (by as_aux_lemma => kernel_rfl) Tryz.func8 4 rfl Tryz.underlying4 rfl
    (fun ds h => by have h : ds.length = 2 := h; match ds, h with | [_, _], _ => rfl) (by as_aux_lemma => kernel_rfl) treeCase_nohand
    (witness_c (enc := enc) (C := Tryz.checked) Rows.treeCaseRow.laid treeCase_nohand #[.agg #[.int .i64 0, .int .i64 0, .slice none 0 0], .slice none 0 0] 8 (by as_aux_lemma => kernel_rfl) (by as_aux_lemma => kernel_rfl) (by as_aux_lemma => kernel_rfl) (by as_aux_lemma => kernel_rfl) (by as_aux_lemma => kernel_rfl) (by as_aux_lemma => kernel_rfl) (by as_aux_lemma => kernel_rfl)) treeCase_law
theorem treeCase_said : Rows.TreeCaseSaid :=
  OpenClaim.holds_of_wide 8 Tryz.f8 rfl rfl rfl rfl rfl rfl rfl ⟨rfl, rfl, rfl, rfl, rfl⟩ rfl rfl rfl rfl rfl treeCase_named Tryz.func8 treeCase.closed
    (of_decide_eq_true (by as_aux_lemma => kernel_rfl)) (by unfold Func.isWrapper; rw [if_neg (of_decide_eq_false (by as_aux_lemma => kernel_rfl))]; exact ⟨rfl, rfl⟩)
    (fun os started H enc _ => treeCase_lifted os started H enc)
theorem treeCase_holds : Rows.TreeCaseCardSaid :=
  Claim7.holds_tied_plain_at .later [] [.data, .data, .data, .data, .pinned] true (true, "84e35d89f4691aa7f81c81ce9ea2b916925eae0f67f106c5568d083c08629b46") true
    treeCase_said (fun _ h => by cases h) (by kernel_rfl) (fun _ h => by cases h) treeCase_row_tie rfl ⟨rfl, rfl⟩ (by kernel_rfl) rfl
    (fun f fn hf hfn => by
      obtain rfl : f = 8 := Option.some.inj ((treeCase_named).symm.trans hf) |>.symm
      obtain rfl : fn = Tryz.f8 := (Option.some.inj (Tryz.func8.symm.trans hfn)).symm
      refine ⟨by kernel_rfl, fun j t ht => ?_⟩
      rw [Tryz.params8] at ht
      cases j with
      | zero =>
        obtain rfl : t = 25 := by simpa using ht.symm
        exact (show Tryz.prog.wantsStandIn 25 = false by kernel_rfl)
      | succ j =>
        cases j with
        | zero =>
          obtain rfl : t = 50 := by simpa using ht.symm
          exact (show Tryz.prog.wantsStandIn 50 = false by kernel_rfl)
        | succ j =>
          simp at ht
    )
    (by kernel_rfl)
#print axioms treeCase_holds
end Go.Proofs.YtdfojghhpdkpfaaGreatDoor
