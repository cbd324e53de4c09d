/-
  ValueReads's tied card, proved: for every input the law returns true, and each argument reads afterwards as it read before. Condition: the listed package-level variables hold what the program's text lays (the card ties this).
-/
import Derived.Test.YtpbekhcogpkbpaaDoorKValueReads
import Derived.Test.YtpbekhcogpkbpaaDoorCards
import Derived.Test.YtpbekhcogpkbpaaDoorTie
import Derived.SevenTiedAt
import Derived.Test.YtpbekhcogpkbpaaDoorVaL
namespace Go.Proofs.YtpbekhcogpkbpaaDoor
open Go.RowKit Go.ChangeShapes Go.WideShapes Go.ChangeAt
theorem valueReads_named : Tryd.prog.funcNamed Rows.valueReadsRow.func = some 6 := by kernel_rfl
theorem valueReads_nohand : (Rows.valueReadsRow.laid.all fun x => x.2.handleName?.isNone) = true := by kernel_rfl
theorem valueReads_lifted (os : Os) (started : os.Started) (H : Type) (enc : TypeId × Value → H) :
    ReturnsInHanded {} Tryd.checked os 6 .any (fun w args => (Rows.valueReadsSpec.pre enc Tryd.prog Tryd.f6 Rows.valueReadsRow.domain false w args ∧ laidMetH Tryd.prog Rows.valueReadsRow.laid w) ∧ sizedMet enc Tryd.prog Tryd.f6 (OpenSpec.ofChange Rows.valueReadsSpec) false w args) (Rows.valueReadsSpec.post enc Tryd.prog Tryd.f6 false true false false) :=
  law_lift_c (C := Tryd.checked) 6 Tryd.f6 Rows.valueReadsSpec Rows.valueReadsRow.laid started P_own P_laid (by as_aux_lemma => kernel_rfl) Tryd.func6 4 rfl Tryd.underlying4 rfl
    (fun ds h => by have h : ds.length = 1 := h; match ds, h with | [_], _ => rfl) (by as_aux_lemma => kernel_rfl) valueReads_nohand
    (witness_c (enc := enc) (C := Tryd.checked) Rows.valueReadsRow.laid valueReads_nohand #[.slice none 0 0] 8 (by as_aux_lemma => kernel_rfl) (by as_aux_lemma => kernel_rfl) (by as_aux_lemma => kernel_rfl) (by as_aux_lemma => kernel_rfl) (by as_aux_lemma => kernel_rfl) (by as_aux_lemma => kernel_rfl) (by as_aux_lemma => kernel_rfl)) valueReads_law
theorem valueReads_said : Rows.ValueReadsSaid :=
  OpenClaim.holds_of_wide 6 Tryd.f6 rfl rfl rfl rfl rfl rfl rfl ⟨rfl, rfl, rfl, rfl, rfl⟩ rfl rfl rfl rfl rfl valueReads_named Tryd.func6 valueReads.closed
    (of_decide_eq_true (by as_aux_lemma => kernel_rfl)) (by unfold Func.isWrapper; rw [if_neg (of_decide_eq_false (by as_aux_lemma => kernel_rfl))]; exact ⟨rfl, rfl⟩)
    (fun os started H enc _ => valueReads_lifted os started H enc)
theorem valueReads_holds : Rows.ValueReadsCardSaid :=
  Claim7.holds_tied_plain_at .later [] [.data, .data, .data, .data, .pinned] true (true, "713405e0b719bc5af51111376d4f83d880c4ce7b2093aaa1ecf7d858042569d8") false
    valueReads_said (fun _ h => by cases h) (by kernel_rfl) (fun _ h => by cases h) valueReads_row_tie rfl ⟨rfl, rfl⟩ (by kernel_rfl) rfl
    (fun f fn hf hfn => by
      obtain rfl : f = 6 := Option.some.inj ((valueReads_named).symm.trans hf) |>.symm
      obtain rfl : fn = Tryd.f6 := (Option.some.inj (Tryd.func6.symm.trans hfn)).symm
      refine ⟨by kernel_rfl, fun j t ht => ?_⟩
      rw [Tryd.params6] at ht
      cases j with
      | zero =>
        obtain rfl : t = 22 := by simpa using ht.symm
        exact (show Tryd.prog.wantsStandIn 22 = false by kernel_rfl)
      | succ j =>
        simp at ht
    )
    (by kernel_rfl)
#print axioms valueReads_holds
end Go.Proofs.YtpbekhcogpkbpaaDoor
