/-
  TreeAgain's tied card, proved: for every input the law returns true, and each argument reads afterwards as it read before. Condition: the listed package-level variables hold what the program's text lays (the card ties this).
-/
import Derived.Test.YtdfojghhpdkpfaaGreatDoorKTreeAgain
import Derived.Test.YtdfojghhpdkpfaaGreatDoorCards
import Derived.Test.YtdfojghhpdkpfaaGreatDoorTie
import Derived.SevenTiedAt
import Derived.Test.YtdfojghhpdkpfaaGreatDoorTrL2W
import Derived.Test.YtdfojghhpdkpfaaGreatDoorA12
import Derived.Test.YtdfojghhpdkpfaaGreatDoorMvPO
namespace Go.Proofs.YtdfojghhpdkpfaaGreatDoor
open Go.RowKit Go.ChangeShapes Go.WideShapes Go.ChangeAt
theorem treeAgain_named : Tryz.prog.funcNamed Rows.treeAgainRow.func = some 7 := by kernel_rfl
theorem treeAgain_nohand : (Rows.treeAgainRow.laid.all fun x => x.2.handleName?.isNone) = true := by kernel_rfl
theorem treeAgain_lifted (os : Os) (started : os.Started) (H : Type) (enc : TypeId × Value → H) :
    ReturnsInHanded {} Tryz.checked os 7 .any (fun w args => (Rows.treeAgainSpec.pre enc Tryz.prog Tryz.f7 Rows.treeAgainRow.domain false w args ∧ laidMetH Tryz.prog Rows.treeAgainRow.laid w) ∧ sizedMet enc Tryz.prog Tryz.f7 (OpenSpec.ofChange Rows.treeAgainSpec) false w args) (Rows.treeAgainSpec.post enc Tryz.prog Tryz.f7 false true false false) :=
  law_lift_c (C := Tryz.checked) 7 Tryz.f7 Rows.treeAgainSpec Rows.treeAgainRow.laid started P_own P_laid (by as_aux_lemma => kernel_rfl) Tryz.func7 4 rfl Tryz.underlying4 rfl
    (fun ds h => by have h : ds.length = 1 := h; match ds, h with | [_], _ => rfl) (by as_aux_lemma => kernel_rfl) treeAgain_nohand
    (witness_c (enc := enc) (C := Tryz.checked) Rows.treeAgainRow.laid treeAgain_nohand #[.string ⟨#[]⟩] 8 (by as_aux_lemma => kernel_rfl) (by as_aux_lemma => kernel_rfl) (by as_aux_lemma => kernel_rfl) (by as_aux_lemma => kernel_rfl) (by as_aux_lemma => kernel_rfl) (by as_aux_lemma => kernel_rfl) (by as_aux_lemma => kernel_rfl)) treeAgain_law
theorem treeAgain_said : Rows.TreeAgainSaid :=
  OpenClaim.holds_of_wide 7 Tryz.f7 rfl rfl rfl rfl rfl rfl rfl ⟨rfl, rfl, rfl, rfl, rfl⟩ rfl rfl rfl rfl rfl treeAgain_named Tryz.func7 treeAgain.closed
    (of_decide_eq_true (by as_aux_lemma => kernel_rfl)) (by unfold Func.isWrapper; rw [if_neg (of_decide_eq_false (by as_aux_lemma => kernel_rfl))]; exact ⟨rfl, rfl⟩)
    (fun os started H enc _ => treeAgain_lifted os started H enc)
theorem treeAgain_holds : Rows.TreeAgainCardSaid :=
  Claim7.holds_tied_plain_at .later [] [.data, .data, .data, .data, .pinned] true (true, "84e35d89f4691aa7f81c81ce9ea2b916925eae0f67f106c5568d083c08629b46") true
    treeAgain_said (fun _ h => by cases h) (by kernel_rfl) (fun _ h => by cases h) treeAgain_row_tie rfl ⟨rfl, rfl⟩ (by kernel_rfl) rfl
    (fun f fn hf hfn => by
      obtain rfl : f = 7 := Option.some.inj ((treeAgain_named).symm.trans hf) |>.symm
      obtain rfl : fn = Tryz.f7 := (Option.some.inj (Tryz.func7.symm.trans hfn)).symm
      refine ⟨by kernel_rfl, fun j t ht => ?_⟩
      rw [Tryz.params7] at ht
      cases j with
      | zero =>
        obtain rfl : t = 9 := by simpa using ht.symm
        exact (show Tryz.prog.wantsStandIn 9 = false by kernel_rfl)
      | succ j =>
        simp at ht
    )
    (by kernel_rfl)
#print axioms treeAgain_holds
end Go.Proofs.YtdfojghhpdkpfaaGreatDoor
