/-
  The walks of package lex: bytes, runs, letters made great.
-/
import Derived.Test.YtcckifllammpbaaLexM
import Derived.Test.YtcckifllammpbaaRows
import Derived.Outline
import Derived.Deep.QuietTactic
import Derived.BigQuiet
set_option linter.unusedSimpArgs false
set_option linter.unusedVariables false
namespace Go.Proofs.Ytcckifllammpbaa
open Go.RowKit

theorem u8_or (a b : UInt8) : Go.bits .or .u8 (n8 a) (n8 b) = n8 (a ||| b) := by
  have key : ∀ c : UInt8, BitVec.ofInt 8 (c.toNat : Int) = c.toBitVec := fun c => by apply BitVec.eq_of_toNat_eq; simp
  have back : ∀ c : BitVec 8, IntKind.u8.wrap (c.toNat : Int) = ((UInt8.ofBitVec c).toNat : Int) := fun c => by
    have := c.isLt
    have e : (UInt8.ofBitVec c).toNat = c.toNat := rfl
    rw [e]
    simp [IntKind.wrap, IntKind.bits, IntKind.signed]; omega
  unfold n8
  show IntKind.u8.wrap ((BitVec.ofInt 8 (a.toNat : Int) ||| BitVec.ofInt 8 (b.toNat : Int)).toNat : Int) = _
  rw [key, key, back]
  rfl
theorem isLet_eq (c : UInt8) : isLet c = ((decide (97 ≤ n8 (c ||| 32)) && decide (n8 (c ||| 32) ≤ 122)) && decide (65 ≤ n8 c) || decide (n8 c = 95)) := by
  have := u8_all (p := fun c => isLet c == ((decide (97 ≤ n8 (c ||| 32)) && decide (n8 (c ||| 32) ≤ 122)) && decide (65 ≤ n8 c) || decide (n8 c = 95))) (by decide +kernel) c
  simpa using this
theorem isDig_eq (c : UInt8) : isDig c = (decide (48 ≤ n8 c) && decide (n8 c ≤ 57)) := by
  have := u8_all (p := fun c => isDig c == (decide (48 ≤ n8 c) && decide (n8 c ≤ 57))) (by decide +kernel) c
  simpa using this
theorem ret_bool {a b : Bool} (h : a = b) : Ending.returned (.bool a) = .returned (.bool b) := by rw [h]

set_option maxHeartbeats 400000 in
theorem lexletter_any (c : UInt8) (w : World) : Calls Try.prog 57 #[.int .u8 (n8 c)] w fun e w' => e = .returned (.bool (isLet c)) ∧ w = w' := by
  have e1 : Go.bits .or .u8 (n8 c) 32 = n8 (c ||| 32) := u8_or c 32
  have H := Lib.hid (isLet_eq c)
  by_cases h1 : 97 ≤ n8 (c ||| 32) <;> by_cases h2 : n8 (c ||| 32) ≤ 122 <;> by_cases h3 : 65 ≤ n8 c <;> by_cases h4 : n8 c = 95
  all_goals
    have K := H.out
    simp only [h1, h2, h3, h4, decide_true, decide_false, Bool.and_true, Bool.and_false, Bool.or_true, Bool.or_false, Bool.and_self, Bool.or_self, Bool.false_and] at K
    rw [K]
    clear K H
    try have k1 : n8 (c ||| 32) < 97 := by omega
    try have k2 : 122 < n8 (c ||| 32) := by omega
    try have k3 : n8 c < 65 := by omega
    try have k4 : (n8 c == 95) = false := by simpa using h4
    first
      | (exfalso; omega)
      | (go_enter Try.func57, Try.ntmps57
         go_wp2
         go_ret
         exact ⟨rfl, rfl⟩)
set_option maxHeartbeats 400000 in
theorem lexdigit_any (c : UInt8) (w : World) : Calls Try.prog 37 #[.int .u8 (n8 c)] w fun e w' => e = .returned (.bool (isDig c)) ∧ w = w' := by
  have H := Lib.hid (isDig_eq c)
  by_cases h1 : 48 ≤ n8 c <;> by_cases h2 : n8 c ≤ 57
  all_goals
    have K := H.out
    simp only [h1, h2, decide_true, decide_false, Bool.and_true, Bool.and_false, Bool.and_self] at K
    rw [K]
    clear K H
    go_enter Try.func37, Try.ntmps37
    go_wp2
    go_ret
    exact ⟨rfl, rfl⟩
set_option maxHeartbeats 400000 in
theorem lexwordy_any (c : UInt8) (w : World) : Calls Try.prog 39 #[.int .u8 (n8 c)] w fun e w' => e = .returned (.bool (isWordy c)) ∧ w = w' := by
  cases h1 : isLet c <;> cases h2 : isDig c
  all_goals
    have K : isWordy c = (isLet c || isDig c) := rfl
    rw [K, h1, h2]
    clear K
    have g1 := lexletter_any c w
    have g2 := lexdigit_any c w
    rw [h1] at g1
    rw [h2] at g2
    clear h1 h2
    go_enter Try.func39, Try.ntmps39
    go_wp2_with (first | (go_at_call 57; refine g1.mono ?_; rintro e w' ⟨rfl, rfl⟩) | (go_at_call 37; refine g2.mono ?_; rintro e w' ⟨rfl, rfl⟩))
    go_ret
    exact ⟨rfl, rfl⟩
end Go.Proofs.Ytcckifllammpbaa
