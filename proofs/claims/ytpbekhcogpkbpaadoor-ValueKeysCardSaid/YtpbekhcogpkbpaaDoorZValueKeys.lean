/-
  ValueKeys's tied card, proved: for every input the law returns true, and each argument reads afterwards as it read before. Condition: the listed package-level variables hold what the program's text lays (the card ties this).
-/
import Derived.Test.YtpbekhcogpkbpaaDoorKValueKeys
import Derived.Test.YtpbekhcogpkbpaaDoorCards
import Derived.Test.YtpbekhcogpkbpaaDoorTie
import Derived.SevenTiedAt
import Derived.Test.YtpbekhcogpkbpaaDoorVaL
namespace Go.Proofs.YtpbekhcogpkbpaaDoor
open Go.RowKit Go.ChangeShapes Go.WideShapes Go.ChangeAt
theorem valueKeys_named : Tryd.prog.funcNamed Rows.valueKeysRow.func = some 4 := by kernel_rfl
theorem valueKeys_nohand : (Rows.valueKeysRow.laid.all fun x => x.2.handleName?.isNone) = true := by kernel_rfl
theorem valueKeys_lifted (os : Os) (started : os.Started) (H : Type) (enc : TypeId × Value → H) :
    ReturnsInHanded {} Tryd.checked os 4 .any (fun w args => (Rows.valueKeysSpec.pre enc Tryd.prog Tryd.f4 Rows.valueKeysRow.domain false w args ∧ laidMetH Tryd.prog Rows.valueKeysRow.laid w) ∧ sizedMet enc Tryd.prog Tryd.f4 (OpenSpec.ofChange Rows.valueKeysSpec) false w args) (Rows.valueKeysSpec.post enc Tryd.prog Tryd.f4 false true false false) :=
  law_lift_c (C := Tryd.checked) 4 Tryd.f4 Rows.valueKeysSpec Rows.valueKeysRow.laid started P_own P_laid (by as_aux_lemma => kernel_rfl) Tryd.func4 4 rfl Tryd.underlying4 rfl
    (fun ds h => by have h : ds.length = 2 := h; match ds, h with | [_, _], _ => rfl) (by as_aux_lemma => kernel_rfl) valueKeys_nohand
    (witness_c (enc := enc) (C := Tryd.checked) Rows.valueKeysRow.laid valueKeys_nohand #[.agg #[.int .i64 0, .int .i64 0, .string ⟨#[]⟩], .agg #[.int .i64 0, .int .i64 0, .string ⟨#[]⟩]] 8 (by as_aux_lemma => kernel_rfl) (by as_aux_lemma => kernel_rfl) (by as_aux_lemma => kernel_rfl) (by as_aux_lemma => kernel_rfl) (by as_aux_lemma => kernel_rfl) (by as_aux_lemma => kernel_rfl) (by as_aux_lemma => kernel_rfl)) valueKeys_law
theorem valueKeys_said : Rows.ValueKeysSaid :=
  OpenClaim.holds_of_wide 4 Tryd.f4 rfl rfl rfl rfl rfl rfl rfl ⟨rfl, rfl, rfl, rfl, rfl⟩ rfl rfl rfl rfl rfl valueKeys_named Tryd.func4 valueKeys.closed
    (of_decide_eq_true (by as_aux_lemma => kernel_rfl)) (by unfold Func.isWrapper; rw [if_neg (of_decide_eq_false (by as_aux_lemma => kernel_rfl))]; exact ⟨rfl, rfl⟩)
    (fun os started H enc _ => valueKeys_lifted os started H enc)
theorem valueKeys_holds : Rows.ValueKeysCardSaid :=
  Claim7.holds_tied_plain_at .later [] [.data, .data, .data, .data, .pinned] true (true, "713405e0b719bc5af51111376d4f83d880c4ce7b2093aaa1ecf7d858042569d8") false
    valueKeys_said (fun _ h => by cases h) (by kernel_rfl) (fun _ h => by cases h) valueKeys_row_tie rfl ⟨rfl, rfl⟩ (by kernel_rfl) rfl
    (fun f fn hf hfn => by
      obtain rfl : f = 4 := Option.some.inj ((valueKeys_named).symm.trans hf) |>.symm
      obtain rfl : fn = Tryd.f4 := (Option.some.inj (Tryd.func4.symm.trans hfn)).symm
      refine ⟨by kernel_rfl, fun j t ht => ?_⟩
      rw [Tryd.params4] at ht
      cases j with
      | zero =>
        obtain rfl : t = 24 := by simpa using ht.symm
        exact (show Tryd.prog.wantsStandIn 24 = false by kernel_rfl)
      | succ j =>
        cases j with
        | zero =>
          obtain rfl : t = 24 := by simpa using ht.symm
          exact (show Tryd.prog.wantsStandIn 24 = false by kernel_rfl)
        | succ j =>
          simp at ht
    )
    (by kernel_rfl)
#print axioms valueKeys_holds
end Go.Proofs.YtpbekhcogpkbpaaDoor
