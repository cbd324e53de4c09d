/-
  TreeBack's tied card, proved: for every input the law returns true, and each argument reads afterwards as it read before. Condition: the listed package-level variables hold what the program's text lays (the card ties this).
-/
import Derived.Test.YtdfojghhpdkpfaaGreatDoorKTreeBack
import Derived.Test.YtdfojghhpdkpfaaGreatDoorCards
import Derived.Test.YtdfojghhpdkpfaaGreatDoorTie
import Derived.SevenTiedAt
import Derived.Test.YtdfojghhpdkpfaaGreatDoorTrL3W
import Derived.Test.YtdfojghhpdkpfaaGreatDoorA12
import Derived.Test.YtdfojghhpdkpfaaGreatDoorMvPO
namespace Go.Proofs.YtdfojghhpdkpfaaGreatDoor
open Go.RowKit Go.ChangeShapes Go.WideShapes Go.ChangeAt
theorem treeBack_named : Tryz.prog.funcNamed Rows.treeBackRow.func = some 6 := by kernel_rfl
theorem treeBack_nohand : (Rows.treeBackRow.laid.all fun x => x.2.handleName?.isNone) = true := by kernel_rfl
theorem treeBack_lifted (os : Os) (started : os.Started) (H : Type) (enc : TypeId × Value → H) :
    ReturnsInHanded {} Tryz.checked os 6 .any (fun w args => (Rows.treeBackSpec.pre enc Tryz.prog Tryz.f6 Rows.treeBackRow.domain false w args ∧ laidMetH Tryz.prog Rows.treeBackRow.laid w) ∧ sizedMet enc Tryz.prog Tryz.f6 (OpenSpec.ofChange Rows.treeBackSpec) false w args) (Rows.treeBackSpec.post enc Tryz.prog Tryz.f6 false true false false) :=
  law_lift_c (C := Tryz.checked) 6 Tryz.f6 Rows.treeBackSpec Rows.treeBackRow.laid started P_own P_laid (by as_aux_lemma => kernel_rfl) Tryz.func6 4 rfl Tryz.underlying4 rfl
    (fun ds h => by have h : ds.length = 1 := h; match ds, h with | [_], _ => rfl) (by as_aux_lemma => kernel_rfl) treeBack_nohand
    (witness_c (enc := enc) (C := Tryz.checked) Rows.treeBackRow.laid treeBack_nohand #[.agg #[.int .i64 0, .int .i64 0, .slice none 0 0]] 8 (by as_aux_lemma => kernel_rfl) (by as_aux_lemma => kernel_rfl) (by as_aux_lemma => kernel_rfl) (by as_aux_lemma => kernel_rfl) (by as_aux_lemma => kernel_rfl) (by as_aux_lemma => kernel_rfl) (by as_aux_lemma => kernel_rfl)) treeBack_law
theorem treeBack_said : Rows.TreeBackSaid :=
  OpenClaim.holds_of_wide 6 Tryz.f6 rfl rfl rfl rfl rfl rfl rfl ⟨rfl, rfl, rfl, rfl, rfl⟩ rfl rfl rfl rfl rfl treeBack_named Tryz.func6 treeBack.closed
    (of_decide_eq_true (by as_aux_lemma => kernel_rfl)) (by unfold Func.isWrapper; rw [if_neg (of_decide_eq_false (by as_aux_lemma => kernel_rfl))]; exact ⟨rfl, rfl⟩)
    (fun os started H enc _ => treeBack_lifted os started H enc)
theorem treeBack_holds : Rows.TreeBackCardSaid :=
  Claim7.holds_tied_plain_at .later [] [.data, .data, .data, .data, .pinned] true (true, "84e35d89f4691aa7f81c81ce9ea2b916925eae0f67f106c5568d083c08629b46") true
    treeBack_said (fun _ h => by cases h) (by kernel_rfl) (fun _ h => by cases h) treeBack_row_tie rfl ⟨rfl, rfl⟩ (by kernel_rfl) rfl
    (fun f fn hf hfn => by
      obtain rfl : f = 6 := Option.some.inj ((treeBack_named).symm.trans hf) |>.symm
      obtain rfl : fn = Tryz.f6 := (Option.some.inj (Tryz.func6.symm.trans hfn)).symm
      refine ⟨by kernel_rfl, fun j t ht => ?_⟩
      rw [Tryz.params6] at ht
      cases j with
      | zero =>
        obtain rfl : t = 25 := by simpa using ht.symm
        exact (show Tryz.prog.wantsStandIn 25 = false by kernel_rfl)
      | succ j =>
        simp at ht
    )
    (by kernel_rfl)
#print axioms treeBack_holds
end Go.Proofs.YtdfojghhpdkpfaaGreatDoor
