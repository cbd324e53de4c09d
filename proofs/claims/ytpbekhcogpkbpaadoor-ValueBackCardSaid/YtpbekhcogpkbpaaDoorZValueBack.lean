/-
  ValueBack's tied card, proved: for every input the law returns true, and each argument reads afterwards as it read before. Condition: the listed package-level variables hold what the program's text lays (the card ties this).
-/
import Derived.Test.YtpbekhcogpkbpaaDoorKValueBack
import Derived.Test.YtpbekhcogpkbpaaDoorCards
import Derived.Test.YtpbekhcogpkbpaaDoorTie
import Derived.SevenTiedAt
import Derived.Test.YtpbekhcogpkbpaaDoorVaL
namespace Go.Proofs.YtpbekhcogpkbpaaDoor
open Go.RowKit Go.ChangeShapes Go.WideShapes Go.ChangeAt
theorem valueBack_named : Tryd.prog.funcNamed Rows.valueBackRow.func = some 7 := by kernel_rfl
theorem valueBack_nohand : (Rows.valueBackRow.laid.all fun x => x.2.handleName?.isNone) = true := by kernel_rfl
theorem valueBack_lifted (os : Os) (started : os.Started) (H : Type) (enc : TypeId × Value → H) :
    ReturnsInHanded {} Tryd.checked os 7 .any (fun w args => (Rows.valueBackSpec.pre enc Tryd.prog Tryd.f7 Rows.valueBackRow.domain false w args ∧ laidMetH Tryd.prog Rows.valueBackRow.laid w) ∧ sizedMet enc Tryd.prog Tryd.f7 (OpenSpec.ofChange Rows.valueBackSpec) false w args) (Rows.valueBackSpec.post enc Tryd.prog Tryd.f7 false true false false) :=
  law_lift_c (C := Tryd.checked) 7 Tryd.f7 Rows.valueBackSpec Rows.valueBackRow.laid started P_own P_laid (by as_aux_lemma => kernel_rfl) Tryd.func7 4 rfl Tryd.underlying4 rfl
    (fun ds h => by have h : ds.length = 2 := h; match ds, h with | [_, _], _ => rfl) (by as_aux_lemma => kernel_rfl) valueBack_nohand
    (witness_c (enc := enc) (C := Tryd.checked) Rows.valueBackRow.laid valueBack_nohand #[.agg #[.int .i64 0, .int .i64 0, .string ⟨#[]⟩], .slice none 0 0] 8 (by as_aux_lemma => kernel_rfl) (by as_aux_lemma => kernel_rfl) (by as_aux_lemma => kernel_rfl) (by as_aux_lemma => kernel_rfl) (by as_aux_lemma => kernel_rfl) (by as_aux_lemma => kernel_rfl) (by as_aux_lemma => kernel_rfl)) valueBack_law
theorem valueBack_said : Rows.ValueBackSaid :=
  OpenClaim.holds_of_wide 7 Tryd.f7 rfl rfl rfl rfl rfl rfl rfl ⟨rfl, rfl, rfl, rfl, rfl⟩ rfl rfl rfl rfl rfl valueBack_named Tryd.func7 valueBack.closed
    (of_decide_eq_true (by as_aux_lemma => kernel_rfl)) (by unfold Func.isWrapper; rw [if_neg (of_decide_eq_false (by as_aux_lemma => kernel_rfl))]; exact ⟨rfl, rfl⟩)
    (fun os started H enc _ => valueBack_lifted os started H enc)
theorem valueBack_holds : Rows.ValueBackCardSaid :=
  Claim7.holds_tied_plain_at .later [] [.data, .data, .data, .data, .pinned] true (true, "713405e0b719bc5af51111376d4f83d880c4ce7b2093aaa1ecf7d858042569d8") false
    valueBack_said (fun _ h => by cases h) (by kernel_rfl) (fun _ h => by cases h) valueBack_row_tie rfl ⟨rfl, rfl⟩ (by kernel_rfl) rfl
    (fun f fn hf hfn => by
      obtain rfl : f = 7 := Option.some.inj ((valueBack_named).symm.trans hf) |>.symm
      obtain rfl : fn = Tryd.f7 := (Option.some.inj (Tryd.func7.symm.trans hfn)).symm
      refine ⟨by kernel_rfl, fun j t ht => ?_⟩
      rw [Tryd.params7] at ht
      cases j with
      | zero =>
        obtain rfl : t = 24 := by simpa using ht.symm
        exact (show Tryd.prog.wantsStandIn 24 = false by kernel_rfl)
      | succ j =>
        cases j with
        | zero =>
          obtain rfl : t = 22 := by simpa using ht.symm
          exact (show Tryd.prog.wantsStandIn 22 = false by kernel_rfl)
        | succ j =>
          simp at ht
    )
    (by kernel_rfl)
#print axioms valueBack_holds
end Go.Proofs.YtpbekhcogpkbpaaDoor
