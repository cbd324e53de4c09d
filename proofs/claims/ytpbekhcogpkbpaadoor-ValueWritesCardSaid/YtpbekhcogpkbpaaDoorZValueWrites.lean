/-
  ValueWrites's tied card, proved: for every input the law returns true, and each argument reads afterwards as it read before. Condition: the listed package-level variables hold what the program's text lays (the card ties this).
-/
import Derived.Test.YtpbekhcogpkbpaaDoorKValueWrites
import Derived.Test.YtpbekhcogpkbpaaDoorCards
import Derived.Test.YtpbekhcogpkbpaaDoorTie
import Derived.SevenTiedAt
import Derived.Test.YtpbekhcogpkbpaaDoorVaL
namespace Go.Proofs.YtpbekhcogpkbpaaDoor
open Go.RowKit Go.ChangeShapes Go.WideShapes Go.ChangeAt
theorem valueWrites_named : Tryd.prog.funcNamed Rows.valueWritesRow.func = some 3 := by kernel_rfl
theorem valueWrites_nohand : (Rows.valueWritesRow.laid.all fun x => x.2.handleName?.isNone) = true := by kernel_rfl
theorem valueWrites_lifted (os : Os) (started : os.Started) (H : Type) (enc : TypeId × Value → H) :
    ReturnsInHanded {} Tryd.checked os 3 .any (fun w args => (Rows.valueWritesSpec.pre enc Tryd.prog Tryd.f3 Rows.valueWritesRow.domain false w args ∧ laidMetH Tryd.prog Rows.valueWritesRow.laid w) ∧ sizedMet enc Tryd.prog Tryd.f3 (OpenSpec.ofChange Rows.valueWritesSpec) false w args) (Rows.valueWritesSpec.post enc Tryd.prog Tryd.f3 false true false false) :=
  law_lift_c (C := Tryd.checked) 3 Tryd.f3 Rows.valueWritesSpec Rows.valueWritesRow.laid started P_own P_laid (by as_aux_lemma => kernel_rfl) Tryd.func3 4 rfl Tryd.underlying4 rfl
    (fun ds h => by have h : ds.length = 2 := h; match ds, h with | [_, _], _ => rfl) (by as_aux_lemma => kernel_rfl) valueWrites_nohand
    (witness_c (enc := enc) (C := Tryd.checked) Rows.valueWritesRow.laid valueWrites_nohand #[.slice none 0 0, .agg #[.int .i64 0, .int .i64 0, .string ⟨#[]⟩]] 8 (by as_aux_lemma => kernel_rfl) (by as_aux_lemma => kernel_rfl) (by as_aux_lemma => kernel_rfl) (by as_aux_lemma => kernel_rfl) (by as_aux_lemma => kernel_rfl) (by as_aux_lemma => kernel_rfl) (by as_aux_lemma => kernel_rfl)) valueWrites_law
theorem valueWrites_said : Rows.ValueWritesSaid :=
  OpenClaim.holds_of_wide 3 Tryd.f3 rfl rfl rfl rfl rfl rfl rfl ⟨rfl, rfl, rfl, rfl, rfl⟩ rfl rfl rfl rfl rfl valueWrites_named Tryd.func3 valueWrites.closed
    (of_decide_eq_true (by as_aux_lemma => kernel_rfl)) (by unfold Func.isWrapper; rw [if_neg (of_decide_eq_false (by as_aux_lemma => kernel_rfl))]; exact ⟨rfl, rfl⟩)
    (fun os started H enc _ => valueWrites_lifted os started H enc)
theorem valueWrites_holds : Rows.ValueWritesCardSaid :=
  Claim7.holds_tied_plain_at .later [] [.data, .data, .data, .data, .pinned] true (true, "713405e0b719bc5af51111376d4f83d880c4ce7b2093aaa1ecf7d858042569d8") false
    valueWrites_said (fun _ h => by cases h) (by kernel_rfl) (fun _ h => by cases h) valueWrites_row_tie rfl ⟨rfl, rfl⟩ (by kernel_rfl) rfl
    (fun f fn hf hfn => by
      obtain rfl : f = 3 := Option.some.inj ((valueWrites_named).symm.trans hf) |>.symm
      obtain rfl : fn = Tryd.f3 := (Option.some.inj (Tryd.func3.symm.trans hfn)).symm
      refine ⟨by kernel_rfl, fun j t ht => ?_⟩
      rw [Tryd.params3] at ht
      cases j with
      | zero =>
        obtain rfl : t = 22 := by simpa using ht.symm
        exact (show Tryd.prog.wantsStandIn 22 = false by kernel_rfl)
      | succ j =>
        cases j with
        | zero =>
          obtain rfl : t = 24 := by simpa using ht.symm
          exact (show Tryd.prog.wantsStandIn 24 = false by kernel_rfl)
        | succ j =>
          simp at ht
    )
    (by kernel_rfl)
#print axioms valueWrites_holds
end Go.Proofs.YtpbekhcogpkbpaaDoor
