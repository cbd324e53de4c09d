/-
  TreeDeep's tied card, proved: for every input the law returns true, and each argument reads afterwards as it read before. Condition: the listed package-level variables hold what the program's text lays (the card ties this).
-/
import Derived.Test.YtdfojghhpdkpfaaGreatDoorKTreeDeep
import Derived.Test.YtdfojghhpdkpfaaGreatDoorCards
import Derived.Test.YtdfojghhpdkpfaaGreatDoorTie
import Derived.SevenTiedAt
import Derived.Test.YtdfojghhpdkpfaaGreatDoorTrL1W
import Derived.Test.YtdfojghhpdkpfaaGreatDoorA12
import Derived.Test.YtdfojghhpdkpfaaGreatDoorMvPO
namespace Go.Proofs.YtdfojghhpdkpfaaGreatDoor
open Go.RowKit Go.ChangeShapes Go.WideShapes Go.ChangeAt
theorem treeDeep_named : Tryz.prog.funcNamed Rows.treeDeepRow.func = some 3 := by kernel_rfl
theorem treeDeep_nohand : (Rows.treeDeepRow.laid.all fun x => x.2.handleName?.isNone) = true := by kernel_rfl
theorem treeDeep_lifted (os : Os) (started : os.Started) (H : Type) (enc : TypeId × Value → H) :
    ReturnsInHanded {} Tryz.checked os 3 .any (fun w args => (Rows.treeDeepSpec.pre enc Tryz.prog Tryz.f3 Rows.treeDeepRow.domain false w args ∧ laidMetH Tryz.prog Rows.treeDeepRow.laid w) ∧ sizedMet enc Tryz.prog Tryz.f3 (OpenSpec.ofChange Rows.treeDeepSpec) false w args) (Rows.treeDeepSpec.post enc Tryz.prog Tryz.f3 false true false false) :=
  law_lift_c (C := Tryz.checked) 3 Tryz.f3 Rows.treeDeepSpec Rows.treeDeepRow.laid started P_own P_laid (by as_aux_lemma => kernel_rfl) Tryz.func3 4 rfl Tryz.underlying4 rfl
    (fun ds h => by have h : ds.length = 2 := h; match ds, h with | [_, _], _ => rfl) (by as_aux_lemma => kernel_rfl) treeDeep_nohand
    (witness_c (enc := enc) (C := Tryz.checked) Rows.treeDeepRow.laid treeDeep_nohand #[.int .i64 0, .int .i64 0] 8 (by as_aux_lemma => kernel_rfl) (by as_aux_lemma => kernel_rfl) (by as_aux_lemma => kernel_rfl) (by as_aux_lemma => kernel_rfl) (by as_aux_lemma => kernel_rfl) (by as_aux_lemma => kernel_rfl) (by as_aux_lemma => kernel_rfl)) treeDeep_law
theorem treeDeep_said : Rows.TreeDeepSaid :=
  OpenClaim.holds_of_wide 3 Tryz.f3 rfl rfl rfl rfl rfl rfl rfl ⟨rfl, rfl, rfl, rfl, rfl⟩ rfl rfl rfl rfl rfl treeDeep_named Tryz.func3 treeDeep.closed
    (of_decide_eq_true (by as_aux_lemma => kernel_rfl)) (by unfold Func.isWrapper; rw [if_neg (of_decide_eq_false (by as_aux_lemma => kernel_rfl))]; exact ⟨rfl, rfl⟩)
    (fun os started H enc _ => treeDeep_lifted os started H enc)
theorem treeDeep_holds : Rows.TreeDeepCardSaid :=
  Claim7.holds_tied_plain_at .later [] [.data, .data, .data, .data, .pinned] true (true, "84e35d89f4691aa7f81c81ce9ea2b916925eae0f67f106c5568d083c08629b46") true
    treeDeep_said (fun _ h => by cases h) (by kernel_rfl) (fun _ h => by cases h) treeDeep_row_tie rfl ⟨rfl, rfl⟩ (by kernel_rfl) rfl
    (fun f fn hf hfn => by
      obtain rfl : f = 3 := Option.some.inj ((treeDeep_named).symm.trans hf) |>.symm
      obtain rfl : fn = Tryz.f3 := (Option.some.inj (Tryz.func3.symm.trans hfn)).symm
      refine ⟨by kernel_rfl, fun j t ht => ?_⟩
      rw [Tryz.params3] at ht
      cases j with
      | zero =>
        obtain rfl : t = 3 := by simpa using ht.symm
        exact (show Tryz.prog.wantsStandIn 3 = false by kernel_rfl)
      | succ j =>
        cases j with
        | zero =>
          obtain rfl : t = 3 := by simpa using ht.symm
          exact (show Tryz.prog.wantsStandIn 3 = false by kernel_rfl)
        | succ j =>
          simp at ht
    )
    (by kernel_rfl)
#print axioms treeDeep_holds
end Go.Proofs.YtdfojghhpdkpfaaGreatDoor
