/-
  The walks of products, and of comparisons.
-/
import Derived.Test.YtakbikibahhepaaExW2
set_option linter.unusedSimpArgs false
set_option linter.unusedVariables false
namespace Go.Proofs.Ytakbikibahhepaa
open Go.RowKit

theorem ret_u64 {a b : Int} (h : a = b) : Ending.returned (.int .u64 a) = .returned (.int .u64 b) := by rw [h]
set_option maxHeartbeats 400000 in
theorem bsize_any (a : Int) (ha : i64B a = true) (w : World) : Calls Try.prog 72 #[.int .i64 a] w fun e w' => e = .returned (.int .u64 (a.natAbs : Nat)) ∧ w = w' := by
  simp only [i64B, Bool.and_eq_true, decide_eq_true_eq] at ha
  obtain ⟨ha1, ha2⟩ := ha
  by_cases h : a < 0
  · go_enter Try.func72, Try.ntmps72
    go_wp2
    go_ret
    refine ⟨ret_u64 ?_, rfl⟩
    rw [show IntKind.u64.wrap a = a + 18446744073709551616 from by simp [IntKind.wrap, IntKind.bits, IntKind.signed]; omega]
    simp [IntKind.wrap, IntKind.bits, IntKind.signed]; omega
  · go_enter Try.func72, Try.ntmps72
    go_wp2
    go_ret
    refine ⟨ret_u64 ?_, rfl⟩
    omega
set_option maxHeartbeats 400000 in
theorem rsize_any (a : Int) (ha : i64B a = true) (w : World) : Calls Try.prog 67 #[.int .i64 a] w fun e w' => e = .returned (.int .u64 (a.natAbs : Nat)) ∧ w = w' := by
  simp only [i64B, Bool.and_eq_true, decide_eq_true_eq] at ha
  obtain ⟨ha1, ha2⟩ := ha
  by_cases h : a < 0
  · go_enter Try.func67, Try.ntmps67
    go_wp2
    go_ret
    refine ⟨ret_u64 ?_, rfl⟩
    omega
  · go_enter Try.func67, Try.ntmps67
    go_wp2
    go_ret
    refine ⟨ret_u64 ?_, rfl⟩
    omega
theorem mul_nat (a b : Int) : a * b = if decide (a < 0) != decide (b < 0) then -((a.natAbs * b.natAbs : Nat) : Int) else ((a.natAbs * b.natAbs : Nat) : Int) := by
  have key : ∀ x y : Nat, ((x * y : Nat) : Int) = (x : Int) * (y : Int) := fun x y => Int.natCast_mul x y
  by_cases ha : a < 0 <;> by_cases hb : b < 0
  · have ea : a = -(a.natAbs : Int) := by omega
    have eb : b = -(b.natAbs : Int) := by omega
    simp only [ha, hb, decide_true, bne_self_eq_false, Bool.false_eq_true, if_false]
    rw [key]
    conv => lhs; rw [ea, eb]
    exact Int.neg_mul_neg _ _
  · have ea : a = -(a.natAbs : Int) := by omega
    have eb : b = (b.natAbs : Int) := by omega
    simp only [ha, hb, decide_true, decide_false, Bool.true_bne, Bool.not_false, if_true]
    rw [key]
    conv => lhs; rw [ea, eb]
    exact Int.neg_mul _ _
  · have ea : a = (a.natAbs : Int) := by omega
    have eb : b = -(b.natAbs : Int) := by omega
    simp only [ha, hb, decide_true, decide_false, Bool.bne_true, Bool.not_false, if_true]
    rw [key]
    conv => lhs; rw [ea, eb]
    exact Int.mul_neg _ _
  · have ea : a = (a.natAbs : Int) := by omega
    have eb : b = (b.natAbs : Int) := by omega
    simp only [ha, hb, decide_false, bne_self_eq_false, Bool.false_eq_true, if_false]
    rw [key]
    conv => lhs; rw [ea, eb]
theorem fit_if (n : Int) : fitF n = if -9223372036854775808 ≤ n ∧ n ≤ 9223372036854775807 then (n, 0) else (0, 5) := by unfold fitF i64B; simp
set_option maxHeartbeats 4000000 in
theorem bmul_any (a b : Int) (ha : i64B a = true) (hb : i64B b = true) (w : World) : Calls Try.prog 66 #[.int .i64 a, .int .i64 b] w (NumP (fitF (a * b)) w) := by
  have HA := ha
  have HB := hb
  simp only [i64B, Bool.and_eq_true, decide_eq_true_eq] at ha hb
  obtain ⟨ha1, ha2⟩ := ha
  obtain ⟨hb1, hb2⟩ := hb
  have gm := fun W => Try.bits_Mul64 a.natAbs b.natAbs (by omega) (by omega) W
  have hm := mul_nat a b
  have hf := fit_if (a * b)
  have hx : a.natAbs * b.natAbs = (a.natAbs * b.natAbs / 18446744073709551616) * 18446744073709551616 + a.natAbs * b.natAbs % 18446744073709551616 := by omega
  have hl : a.natAbs * b.natAbs % 18446744073709551616 < 18446744073709551616 := Nat.mod_lt _ (by decide)
  generalize a.natAbs * b.natAbs / 18446744073709551616 = hi at *
  generalize a.natAbs * b.natAbs % 18446744073709551616 = lo at *
  generalize a.natAbs * b.natAbs = X at *
  generalize fitF (a * b) = R at *
  have Hf := Lib.hid hf
  clear hf
  cases sa : decide (a < 0) <;> cases sb : decide (b < 0)
  all_goals
    have ia : decide (a < 0) = true ∨ 0 ≤ a := by by_cases h : a < 0 <;> simp [h]; omega
    simp only [sa, sb, bne_self_eq_false, Bool.true_bne, Bool.false_bne, Bool.bne_true, Bool.bne_false, Bool.not_true, Bool.not_false, Bool.false_eq_true, if_false, if_true] at hm
    have hm1 : a * b ≤ X := by omega
    have hm2 : -(X : Int) ≤ a * b := by omega
    have Hm := Lib.hid hm
    have Hx := Lib.hid hx
    clear hm hx ia
    by_cases hz : hi = 0
    · obtain rfl := hz
      by_cases h1 : lo ≤ 9223372036854775807
      · have q1 : -9223372036854775808 ≤ a * b := by have := Hm.out; have := Hx.out; omega
        have q2 : a * b ≤ 9223372036854775807 := by have := Hm.out; have := Hx.out; omega
        have q3 : (lo : Int) ≤ 9223372036854775807 := by omega
        have q4 : (lo : Int) ≤ 9223372036854775808 := by omega
        clear hm1 hm2
        go_enter Try.func66, Try.ntmps66
        go_wp2_with (first | (go_at_call 72; refine (bsize_any _ (by assumption) _).mono ?_; rintro e w' ⟨rfl, rfl⟩) | (go_at_call 71; refine (gm _).mono ?_; rintro e w' ⟨rfl, rfl⟩))
        go_ret2
        exact NumP.mk' (Hf.out.trans (if_pos ⟨q1, q2⟩))
      · by_cases h2 : lo ≤ 9223372036854775808
        · have q4 : (lo : Int) ≤ 9223372036854775808 := by omega
          have q3 : (9223372036854775807 : Int) < (lo : Int) := by omega
          by_cases q1 : -9223372036854775808 ≤ a * b ∧ a * b ≤ 9223372036854775807
          · obtain ⟨q1, q2⟩ := q1
            clear hm1 hm2 h1 h2
            first
            | (exfalso; have := Hm.out; have := Hx.out; omega)
            | (
              go_enter Try.func66, Try.ntmps66
              go_wp2_with (first | (go_at_call 72; refine (bsize_any _ (by assumption) _).mono ?_; rintro e w' ⟨rfl, rfl⟩) | (go_at_call 71; refine (gm _).mono ?_; rintro e w' ⟨rfl, rfl⟩))
              go_ret2
              exact NumP.mk' (Hf.out.trans (if_pos ⟨q1, q2⟩)))
          · have K := Hf.out.trans (if_neg q1)
            have HK := Lib.hid K
            have HQ := Lib.hid q1
            clear hm1 hm2 h1 h2 q1 K Hf
            first
            | (exfalso; have := Hm.out; have := Hx.out; have := HQ.out; omega)
            | (
              go_enter Try.func66, Try.ntmps66
              go_wp2_with (first | (go_at_call 72; refine (bsize_any _ (by assumption) _).mono ?_; rintro e w' ⟨rfl, rfl⟩) | (go_at_call 71; refine (gm _).mono ?_; rintro e w' ⟨rfl, rfl⟩))
              go_ret2
              exact NumP.mk' HK.out)
        · have q3 : (9223372036854775808 : Int) < (lo : Int) := by omega
          have q4 : (9223372036854775807 : Int) < (lo : Int) := by omega
          have q1 : ¬ (-9223372036854775808 ≤ a * b ∧ a * b ≤ 9223372036854775807) := by have := Hm.out; have := Hx.out; omega
          have K := Hf.out.trans (if_neg q1)
          have HK := Lib.hid K
          clear hm1 hm2 h1 h2 q1 K Hf
          go_enter Try.func66, Try.ntmps66
          go_wp2_with (first | (go_at_call 72; refine (bsize_any _ (by assumption) _).mono ?_; rintro e w' ⟨rfl, rfl⟩) | (go_at_call 71; refine (gm _).mono ?_; rintro e w' ⟨rfl, rfl⟩))
          go_ret2
          exact NumP.mk' HK.out
    · have q3 : (0 : Int) < (hi : Int) := by omega
      have q1 : ¬ (-9223372036854775808 ≤ a * b ∧ a * b ≤ 9223372036854775807) := by have := Hm.out; have := Hx.out; omega
      have K := Hf.out.trans (if_neg q1)
      have HK := Lib.hid K
      clear hm1 hm2 q1 K Hf hz
      go_enter Try.func66, Try.ntmps66
      go_wp2_with (first | (go_at_call 72; refine (bsize_any _ (by assumption) _).mono ?_; rintro e w' ⟨rfl, rfl⟩) | (go_at_call 71; refine (gm _).mono ?_; rintro e w' ⟨rfl, rfl⟩))
      go_ret2
      exact NumP.mk' HK.out
end Go.Proofs.Ytakbikibahhepaa
