/-
  ValueOrder's tied card, proved: for every input the law returns true, and each argument reads afterwards as it read before. Condition: the listed package-level variables hold what the program's text lays (the card ties this).
-/
import Derived.Test.YtpbekhcogpkbpaaDoorKValueOrder
import Derived.Test.YtpbekhcogpkbpaaDoorCards
import Derived.Test.YtpbekhcogpkbpaaDoorTie
import Derived.SevenTiedAt
import Derived.Test.YtpbekhcogpkbpaaDoorVaL
namespace Go.Proofs.YtpbekhcogpkbpaaDoor
open Go.RowKit Go.ChangeShapes Go.WideShapes Go.ChangeAt
theorem valueOrder_named : Tryd.prog.funcNamed Rows.valueOrderRow.func = some 5 := by kernel_rfl
theorem valueOrder_nohand : (Rows.valueOrderRow.laid.all fun x => x.2.handleName?.isNone) = true := by kernel_rfl
theorem valueOrder_lifted (os : Os) (started : os.Started) (H : Type) (enc : TypeId × Value → H) :
    ReturnsInHanded {} Tryd.checked os 5 .any (fun w args => (Rows.valueOrderSpec.pre enc Tryd.prog Tryd.f5 Rows.valueOrderRow.domain false w args ∧ laidMetH Tryd.prog Rows.valueOrderRow.laid w) ∧ sizedMet enc Tryd.prog Tryd.f5 (OpenSpec.ofChange Rows.valueOrderSpec) false w args) (Rows.valueOrderSpec.post enc Tryd.prog Tryd.f5 false true false false) :=
  law_lift_c (C := Tryd.checked) 5 Tryd.f5 Rows.valueOrderSpec Rows.valueOrderRow.laid started P_own P_laid (by as_aux_lemma => kernel_rfl) Tryd.func5 4 rfl Tryd.underlying4 rfl
    (fun ds h => by have h : ds.length = 3 := h; match ds, h with | [_, _, _], _ => rfl) (by as_aux_lemma => kernel_rfl) valueOrder_nohand
    (witness_c (enc := enc) (C := Tryd.checked) Rows.valueOrderRow.laid valueOrder_nohand #[.agg #[.int .i64 0, .int .i64 0, .string ⟨#[]⟩], .agg #[.int .i64 0, .int .i64 0, .string ⟨#[]⟩], .agg #[.int .i64 0, .int .i64 0, .string ⟨#[]⟩]] 8 (by as_aux_lemma => kernel_rfl) (by as_aux_lemma => kernel_rfl) (by as_aux_lemma => kernel_rfl) (by as_aux_lemma => kernel_rfl) (by as_aux_lemma => kernel_rfl) (by as_aux_lemma => kernel_rfl) (by as_aux_lemma => kernel_rfl)) valueOrder_law
theorem valueOrder_said : Rows.ValueOrderSaid :=
  OpenClaim.holds_of_wide 5 Tryd.f5 rfl rfl rfl rfl rfl rfl rfl ⟨rfl, rfl, rfl, rfl, rfl⟩ rfl rfl rfl rfl rfl valueOrder_named Tryd.func5 valueOrder.closed
    (of_decide_eq_true (by as_aux_lemma => kernel_rfl)) (by unfold Func.isWrapper; rw [if_neg (of_decide_eq_false (by as_aux_lemma => kernel_rfl))]; exact ⟨rfl, rfl⟩)
    (fun os started H enc _ => valueOrder_lifted os started H enc)
theorem valueOrder_holds : Rows.ValueOrderCardSaid :=
  Claim7.holds_tied_plain_at .later [] [.data, .data, .data, .data, .pinned] true (true, "713405e0b719bc5af51111376d4f83d880c4ce7b2093aaa1ecf7d858042569d8") false
    valueOrder_said (fun _ h => by cases h) (by kernel_rfl) (fun _ h => by cases h) valueOrder_row_tie rfl ⟨rfl, rfl⟩ (by kernel_rfl) rfl
    (fun f fn hf hfn => by
      obtain rfl : f = 5 := Option.some.inj ((valueOrder_named).symm.trans hf) |>.symm
      obtain rfl : fn = Tryd.f5 := (Option.some.inj (Tryd.func5.symm.trans hfn)).symm
      refine ⟨by kernel_rfl, fun j t ht => ?_⟩
      rw [Tryd.params5] at ht
      cases j with
      | zero =>
        obtain rfl : t = 24 := by simpa using ht.symm
        exact (show Tryd.prog.wantsStandIn 24 = false by kernel_rfl)
      | succ j =>
        cases j with
        | zero =>
          obtain rfl : t = 24 := by simpa using ht.symm
          exact (show Tryd.prog.wantsStandIn 24 = false by kernel_rfl)
        | succ j =>
          cases j with
          | zero =>
            obtain rfl : t = 24 := by simpa using ht.symm
            exact (show Tryd.prog.wantsStandIn 24 = false by kernel_rfl)
          | succ j =>
            simp at ht
    )
    (by kernel_rfl)
#print axioms valueOrder_holds
end Go.Proofs.YtpbekhcogpkbpaaDoor
