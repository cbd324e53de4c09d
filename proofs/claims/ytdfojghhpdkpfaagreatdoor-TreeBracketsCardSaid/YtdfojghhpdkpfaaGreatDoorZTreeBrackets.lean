/-
  TreeBrackets's tied card, proved: for every input the law returns true, and each argument reads afterwards as it read before. Condition: the listed package-level variables hold what the program's text lays (the card ties this).
-/
import Derived.Test.YtdfojghhpdkpfaaGreatDoorKTreeBrackets
import Derived.Test.YtdfojghhpdkpfaaGreatDoorCards
import Derived.Test.YtdfojghhpdkpfaaGreatDoorTie
import Derived.SevenTiedAt
import Derived.Test.YtdfojghhpdkpfaaGreatDoorTrL5W
import Derived.Test.YtdfojghhpdkpfaaGreatDoorA12
import Derived.Test.YtdfojghhpdkpfaaGreatDoorMvPO
namespace Go.Proofs.YtdfojghhpdkpfaaGreatDoor
open Go.RowKit Go.ChangeShapes Go.WideShapes Go.ChangeAt
theorem treeBrackets_named : Tryz.prog.funcNamed Rows.treeBracketsRow.func = some 4 := by kernel_rfl
theorem treeBrackets_nohand : (Rows.treeBracketsRow.laid.all fun x => x.2.handleName?.isNone) = true := by kernel_rfl
theorem treeBrackets_lifted (os : Os) (started : os.Started) (H : Type) (enc : TypeId × Value → H) :
    ReturnsInHanded {} Tryz.checked os 4 .any (fun w args => (Rows.treeBracketsSpec.pre enc Tryz.prog Tryz.f4 Rows.treeBracketsRow.domain false w args ∧ laidMetH Tryz.prog Rows.treeBracketsRow.laid w) ∧ sizedMet enc Tryz.prog Tryz.f4 (OpenSpec.ofChange Rows.treeBracketsSpec) false w args) (Rows.treeBracketsSpec.post enc Tryz.prog Tryz.f4 false true false false) :=
  law_lift_c (C := Tryz.checked) 4 Tryz.f4 Rows.treeBracketsSpec Rows.treeBracketsRow.laid started P_own P_laid (by as_aux_lemma => kernel_rfl) Tryz.func4 4 rfl Tryz.underlying4 rfl
    (fun ds h => by have h : ds.length = 3 := h; match ds, h with | [_, _, _], _ => rfl) (by as_aux_lemma => kernel_rfl) treeBrackets_nohand
    (witness_c (enc := enc) (C := Tryz.checked) Rows.treeBracketsRow.laid treeBrackets_nohand #[.agg #[.int .i64 0, .string ⟨#[]⟩, .int .i64 0, .int .i64 0, .string ⟨#[]⟩, .slice none 0 0], .agg #[.int .i64 0, .string ⟨#[]⟩, .int .i64 0, .int .i64 0, .string ⟨#[]⟩, .slice none 0 0], .agg #[.int .i64 0, .string ⟨#[]⟩, .int .i64 0, .int .i64 0, .string ⟨#[]⟩, .slice none 0 0]] 8 (by as_aux_lemma => kernel_rfl) (by as_aux_lemma => kernel_rfl) (by as_aux_lemma => kernel_rfl) (by as_aux_lemma => kernel_rfl) (by as_aux_lemma => kernel_rfl) (by as_aux_lemma => kernel_rfl) (by as_aux_lemma => kernel_rfl)) treeBrackets_law
theorem treeBrackets_said : Rows.TreeBracketsSaid :=
  OpenClaim.holds_of_wide 4 Tryz.f4 rfl rfl rfl rfl rfl rfl rfl ⟨rfl, rfl, rfl, rfl, rfl⟩ rfl rfl rfl rfl rfl treeBrackets_named Tryz.func4 treeBrackets.closed
    (of_decide_eq_true (by as_aux_lemma => kernel_rfl)) (by unfold Func.isWrapper; rw [if_neg (of_decide_eq_false (by as_aux_lemma => kernel_rfl))]; exact ⟨rfl, rfl⟩)
    (fun os started H enc _ => treeBrackets_lifted os started H enc)
theorem treeBrackets_holds : Rows.TreeBracketsCardSaid :=
  Claim7.holds_tied_plain_at .later [] [.data, .data, .data, .data, .pinned] true (true, "84e35d89f4691aa7f81c81ce9ea2b916925eae0f67f106c5568d083c08629b46") true
    treeBrackets_said (fun _ h => by cases h) (by kernel_rfl) (fun _ h => by cases h) treeBrackets_row_tie rfl ⟨rfl, rfl⟩ (by kernel_rfl) rfl
    (fun f fn hf hfn => by
      obtain rfl : f = 4 := Option.some.inj ((treeBrackets_named).symm.trans hf) |>.symm
      obtain rfl : fn = Tryz.f4 := (Option.some.inj (Tryz.func4.symm.trans hfn)).symm
      refine ⟨by kernel_rfl, fun j t ht => ?_⟩
      rw [Tryz.params4] at ht
      cases j with
      | zero =>
        obtain rfl : t = 34 := by simpa using ht.symm
        exact (show Tryz.prog.wantsStandIn 34 = false by kernel_rfl)
      | succ j =>
        cases j with
        | zero =>
          obtain rfl : t = 34 := by simpa using ht.symm
          exact (show Tryz.prog.wantsStandIn 34 = false by kernel_rfl)
        | succ j =>
          cases j with
          | zero =>
            obtain rfl : t = 34 := by simpa using ht.symm
            exact (show Tryz.prog.wantsStandIn 34 = false by kernel_rfl)
          | succ j =>
            simp at ht
    )
    (by kernel_rfl)
#print axioms treeBrackets_holds
end Go.Proofs.YtdfojghhpdkpfaaGreatDoor
