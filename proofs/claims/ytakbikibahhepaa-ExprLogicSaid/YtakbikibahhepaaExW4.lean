/-
  The walks of the document's sums and products; comparisons of both.
-/
import Derived.Test.YtakbikibahhepaaExW3
set_option linter.unusedSimpArgs false
set_option linter.unusedVariables false
namespace Go.Proofs.Ytakbikibahhepaa
open Go.RowKit

set_option maxHeartbeats 1000000 in
theorem refadd_any (b a : Int) (hb : i64B b = true) (ha : i64B a = true) (w : World) : Calls Try.prog 58 #[.int .i64 b, .int .i64 a] w (NumP (fitF (b + a)) w) := by
  simp only [i64B, Bool.and_eq_true, decide_eq_true_eq] at ha hb
  obtain ⟨ha1, ha2⟩ := ha
  obtain ⟨hb1, hb2⟩ := hb
  have key := fit_if (b + a)
  generalize fitF (b + a) = R at *
  have Key := Lib.hid key
  clear key
  by_cases h1 : 0 < b
  · by_cases h2 : 9223372036854775807 - b < a
    · go_enter Try.func58, Try.ntmps58
      go_wp2
      go_ret2
      exact NumP.mk' (Key.out.trans (if_neg (by omega)))
    · go_enter Try.func58, Try.ntmps58
      go_wp2
      go_ret2
      exact NumP.mk' (Key.out.trans (if_pos (by omega)))
  · by_cases h0 : b < 0
    · by_cases h2 : a < -9223372036854775808 - b
      · go_enter Try.func58, Try.ntmps58
        go_wp2
        go_ret2
        exact NumP.mk' (Key.out.trans (if_neg (by omega)))
      · go_enter Try.func58, Try.ntmps58
        go_wp2
        go_ret2
        exact NumP.mk' (Key.out.trans (if_pos (by omega)))
    · obtain rfl : b = 0 := by omega
      go_enter Try.func58, Try.ntmps58
      go_wp2
      go_ret2
      exact NumP.mk' (by rw [Key.out, if_pos (by omega)]; simp)
theorem div_lt_nat {m x y : Nat} (hy : 0 < y) : m / y < x ↔ m < x * y := by
  rw [Nat.div_lt_iff_lt_mul hy]
set_option maxHeartbeats 4000000 in
theorem refmul_any (a b : Int) (ha : i64B a = true) (hb : i64B b = true) (w : World) : Calls Try.prog 59 #[.int .i64 a, .int .i64 b] w (NumP (fitF (a * b)) w) := by
  have HA := ha
  have HB := hb
  simp only [i64B, Bool.and_eq_true, decide_eq_true_eq] at ha hb
  obtain ⟨ha1, ha2⟩ := ha
  obtain ⟨hb1, hb2⟩ := hb
  have hm := mul_nat a b
  have hf := fit_if (a * b)
  by_cases za : a = 0
  · subst za
    rw [Int.zero_mul]
    have Hf : fitF 0 = (0, 0) := rfl
    rw [Hf]
    clear hm hf Hf
    go_enter Try.func59, Try.ntmps59
    go_wp2
    go_ret2
    exact NumP.mk' rfl
  by_cases zb : b = 0
  · subst zb
    rw [Int.mul_zero]
    have Hf : fitF 0 = (0, 0) := rfl
    rw [Hf]
    have b1 : (a == 0) = false := by simpa using za
    clear hm hf Hf za
    go_enter Try.func59, Try.ntmps59
    go_wp2
    go_ret2
    exact NumP.mk' rfl
  have b1 : (a == 0) = false := by simpa using za
  have b2 : (b == 0) = false := by simpa using zb
  have y0 : 0 < b.natAbs := by omega
  have y1 : a.natAbs < 9223372036854775809 := by omega
  have y2 : b.natAbs < 9223372036854775809 := by omega
  have y3 : ((b.natAbs : Nat) : Int) ≠ 0 := by omega
  have d1 := div_lt_nat (m := 9223372036854775807) (x := a.natAbs) y0
  have d2 := div_lt_nat (m := 9223372036854775808) (x := a.natAbs) y0
  have Gs := Lib.hid (show i64B a = true ∧ i64B b = true from ⟨HA, HB⟩)
  have ga := fun W => rsize_any a HA W
  have gb := fun W => rsize_any b HB W
  generalize a.natAbs * b.natAbs = X at *
  generalize fitF (a * b) = R at *
  have e1 : ((9223372036854775807 / b.natAbs : Nat) : Int) = 9223372036854775807 / (b.natAbs : Int) := by simp
  have e2 : ((9223372036854775808 / b.natAbs : Nat) : Int) = 9223372036854775808 / (b.natAbs : Int) := by simp
  generalize a.natAbs = x at *
  generalize b.natAbs = y at *
  have x0 : (0 : Int) < (y : Int) := by omega
  have Hf := Lib.hid hf
  have Y3 := Lib.hid y3
  clear hf za zb HA HB y3
  cases sa : decide (a < 0) <;> cases sb : decide (b < 0)
  all_goals
    simp only [sa, sb, bne_self_eq_false, Bool.true_bne, Bool.false_bne, Bool.bne_true, Bool.bne_false, Bool.not_true, Bool.not_false, Bool.false_eq_true, if_false, if_true] at hm
    have Hm := Lib.hid hm
    by_cases q1 : -9223372036854775808 ≤ a * b ∧ a * b ≤ 9223372036854775807
    · have c1 : (9223372036854775807 / y < x ↔ False) ∨ (9223372036854775808 / y < x ↔ False) := by
        by_cases h : X ≤ 9223372036854775807
        · exact .inl (iff_false_intro (fun hc => by have := d1.1 hc; omega))
        · exact .inr (iff_false_intro (fun hc => by have := d2.1 hc; omega))
      have m1 : X ≤ 9223372036854775808 := by omega
      have m2 : (x : Int) ≤ 9223372036854775808 / (y : Int) := by
        have : ¬ (9223372036854775808 / y < x) := fun hc => by have := d2.1 hc; omega
        omega
      obtain ⟨q1, q2⟩ := q1
      first
      | (have m3 : X ≤ 9223372036854775807 := by omega
         have m4 : (x : Int) ≤ 9223372036854775807 / (y : Int) := by
           have : ¬ (9223372036854775807 / y < x) := fun hc => by have := d1.1 hc; omega
           omega
         clear hm c1 m1 m2 m3 d1 d2 e1 e2
         go_enter Try.func59, Try.ntmps59
         go_wp2_with (go_at_call 67; refine stopAt ?_)
         unfold Hid
         refine (ga _).mono ?_
         rintro e w' ⟨rfl, rfl⟩
         go_wp2_with (go_at_call 67; refine stopAt ?_)
         unfold Hid
         refine (gb _).mono ?_
         rintro e w' ⟨rfl, rfl⟩
         go_wp2
         go_ret2
         exact NumP.mk' (Hf.out.trans (if_pos ⟨q1, q2⟩)))
      | (clear hm c1 m1 d1 d2 e1 e2
         go_enter Try.func59, Try.ntmps59
         go_wp2_with (go_at_call 67; refine stopAt ?_)
         unfold Hid
         refine (ga _).mono ?_
         rintro e w' ⟨rfl, rfl⟩
         go_wp2_with (go_at_call 67; refine stopAt ?_)
         unfold Hid
         refine (gb _).mono ?_
         rintro e w' ⟨rfl, rfl⟩
         go_wp2
         go_ret2
         exact NumP.mk' (Hf.out.trans (if_pos ⟨q1, q2⟩)))
    · have m2 : (9223372036854775807 : Int) / (y : Int) < (x : Int) := by
        have : 9223372036854775807 / y < x := d1.2 (by omega)
        omega
      have K := Hf.out.trans (if_neg q1)
      have HK := Lib.hid K
      first
      | (have m3 : 9223372036854775808 < X := by omega
         have m4 : (9223372036854775808 : Int) / (y : Int) < (x : Int) := by
           have : 9223372036854775808 / y < x := d2.2 m3
           omega
         clear hm K q1 d1 d2 e1 e2 m3
         go_enter Try.func59, Try.ntmps59
         go_wp2_with (go_at_call 67; refine stopAt ?_)
         unfold Hid
         refine (ga _).mono ?_
         rintro e w' ⟨rfl, rfl⟩
         go_wp2_with (go_at_call 67; refine stopAt ?_)
         unfold Hid
         refine (gb _).mono ?_
         rintro e w' ⟨rfl, rfl⟩
         go_wp2
         go_ret2
         exact NumP.mk' HK.out)
      | (clear hm K q1 d1 d2 e1 e2
         go_enter Try.func59, Try.ntmps59
         go_wp2_with (go_at_call 67; refine stopAt ?_)
         unfold Hid
         refine (ga _).mono ?_
         rintro e w' ⟨rfl, rfl⟩
         go_wp2_with (go_at_call 67; refine stopAt ?_)
         unfold Hid
         refine (gb _).mono ?_
         rintro e w' ⟨rfl, rfl⟩
         go_wp2
         go_ret2
         exact NumP.mk' HK.out)
end Go.Proofs.Ytakbikibahhepaa
