/-
  TreePrints's tied card, proved: for every input the law returns true, and each argument reads afterwards as it read before. Condition: the listed package-level variables hold what the program's text lays (the card ties this).
-/
import Derived.Test.YtdfojghhpdkpfaaGreatDoorKTreePrints
import Derived.Test.YtdfojghhpdkpfaaGreatDoorCards
import Derived.Test.YtdfojghhpdkpfaaGreatDoorTie
import Derived.SevenTiedAt
import Derived.Test.YtdfojghhpdkpfaaGreatDoorTrL6W
import Derived.Test.YtdfojghhpdkpfaaGreatDoorG14
namespace Go.Proofs.YtdfojghhpdkpfaaGreatDoor
open Go.RowKit Go.ChangeShapes Go.WideShapes Go.ChangeAt
theorem treePrints_named : Tryz.prog.funcNamed Rows.treePrintsRow.func = some 5 := by kernel_rfl
theorem treePrints_nohand : (Rows.treePrintsRow.laid.all fun x => x.2.handleName?.isNone) = true := by kernel_rfl
theorem treePrints_lifted (os : Os) (started : os.Started) (H : Type) (enc : TypeId × Value → H) :
    ReturnsInHanded {} Tryz.checked os 5 .any (fun w args => (Rows.treePrintsSpec.pre enc Tryz.prog Tryz.f5 Rows.treePrintsRow.domain false w args ∧ laidMetH Tryz.prog Rows.treePrintsRow.laid w) ∧ sizedMet enc Tryz.prog Tryz.f5 (OpenSpec.ofChange Rows.treePrintsSpec) false w args) (Rows.treePrintsSpec.post enc Tryz.prog Tryz.f5 false true false false) :=
  law_lift_c (C := Tryz.checked) 5 Tryz.f5 Rows.treePrintsSpec Rows.treePrintsRow.laid started P_own P_laid (by as_aux_lemma => kernel_rfl) Tryz.func5 4 rfl Tryz.underlying4 rfl
    (fun ds h => by have h : ds.length = 2 := h; match ds, h with | [_, _], _ => rfl) (by as_aux_lemma => kernel_rfl) treePrints_nohand
    (witness_c (enc := enc) (C := Tryz.checked) Rows.treePrintsRow.laid treePrints_nohand #[.agg #[.int .i64 0, .int .i64 0, .slice none 0 0], .agg #[.int .i64 0, .int .i64 0, .slice none 0 0]] 8 (by as_aux_lemma => kernel_rfl) (by as_aux_lemma => kernel_rfl) (by as_aux_lemma => kernel_rfl) (by as_aux_lemma => kernel_rfl) (by as_aux_lemma => kernel_rfl) (by as_aux_lemma => kernel_rfl) (by as_aux_lemma => kernel_rfl)) treePrints_law
theorem treePrints_said : Rows.TreePrintsSaid :=
  OpenClaim.holds_of_wide 5 Tryz.f5 rfl rfl rfl rfl rfl rfl rfl ⟨rfl, rfl, rfl, rfl, rfl⟩ rfl rfl rfl rfl rfl treePrints_named Tryz.func5 treePrints.closed
    (of_decide_eq_true (by as_aux_lemma => kernel_rfl)) (by unfold Func.isWrapper; rw [if_neg (of_decide_eq_false (by as_aux_lemma => kernel_rfl))]; exact ⟨rfl, rfl⟩)
    (fun os started H enc _ => treePrints_lifted os started H enc)
theorem treePrints_holds : Rows.TreePrintsCardSaid :=
  Claim7.holds_tied_plain_at .later [] [.data, .data, .data, .data, .pinned] true (true, "84e35d89f4691aa7f81c81ce9ea2b916925eae0f67f106c5568d083c08629b46") true
    treePrints_said (fun _ h => by cases h) (by kernel_rfl) (fun _ h => by cases h) treePrints_row_tie rfl ⟨rfl, rfl⟩ (by kernel_rfl) rfl
    (fun f fn hf hfn => by
      obtain rfl : f = 5 := Option.some.inj ((treePrints_named).symm.trans hf) |>.symm
      obtain rfl : fn = Tryz.f5 := (Option.some.inj (Tryz.func5.symm.trans hfn)).symm
      refine ⟨by kernel_rfl, fun j t ht => ?_⟩
      rw [Tryz.params5] at ht
      cases j with
      | zero =>
        obtain rfl : t = 25 := by simpa using ht.symm
        exact (show Tryz.prog.wantsStandIn 25 = false by kernel_rfl)
      | succ j =>
        cases j with
        | zero =>
          obtain rfl : t = 25 := by simpa using ht.symm
          exact (show Tryz.prog.wantsStandIn 25 = false by kernel_rfl)
        | succ j =>
          simp at ht
    )
    (by kernel_rfl)
#print axioms treePrints_holds
end Go.Proofs.YtdfojghhpdkpfaaGreatDoor
