/-
  The walks of small functions, the program's and the document's: kinds of operators, comparisons, May.
-/
import Derived.Test.YtakbikibahhepaaExW1
set_option linter.unusedSimpArgs false
set_option linter.unusedVariables false
namespace Go.Proofs.Ytakbikibahhepaa
open Go.RowKit

/-- No operator. -/
structure NoOp (s : List UInt8) : Prop where
  n0 : ¬ s = [73, 83, 78, 85, 76, 76]
  n1 : ¬ s = [78, 79, 84, 78, 85, 76, 76]
  n2 : ¬ s = [78, 79, 84]
  n3 : ¬ s = [78, 69, 71]
  n4 : ¬ s = [79, 82]
  n5 : ¬ s = [65, 78, 68]
  n6 : ¬ s = [43]
  n7 : ¬ s = [45]
  n8 : ¬ s = [42]
  n9 : ¬ s = [47]
  n10 : ¬ s = [37]
  n11 : ¬ s = [61]
  n12 : ¬ s = [60, 62]
  n13 : ¬ s = [60]
  n14 : ¬ s = [60, 61]
  n15 : ¬ s = [62]
  n16 : ¬ s = [62, 61]
theorem op_cases (s : List UInt8) : s = [73, 83, 78, 85, 76, 76] ∨ s = [78, 79, 84, 78, 85, 76, 76] ∨ s = [78, 79, 84] ∨ s = [78, 69, 71] ∨ s = [79, 82] ∨ s = [65, 78, 68] ∨ s = [43] ∨ s = [45] ∨ s = [42] ∨ s = [47] ∨ s = [37] ∨ s = [61] ∨ s = [60, 62] ∨ s = [60] ∨ s = [60, 61] ∨ s = [62] ∨ s = [62, 61] ∨ NoOp s := by
  by_cases h0 : s = [73, 83, 78, 85, 76, 76]
  · simp [h0]
  by_cases h1 : s = [78, 79, 84, 78, 85, 76, 76]
  · simp [h1]
  by_cases h2 : s = [78, 79, 84]
  · simp [h2]
  by_cases h3 : s = [78, 69, 71]
  · simp [h3]
  by_cases h4 : s = [79, 82]
  · simp [h4]
  by_cases h5 : s = [65, 78, 68]
  · simp [h5]
  by_cases h6 : s = [43]
  · simp [h6]
  by_cases h7 : s = [45]
  · simp [h7]
  by_cases h8 : s = [42]
  · simp [h8]
  by_cases h9 : s = [47]
  · simp [h9]
  by_cases h10 : s = [37]
  · simp [h10]
  by_cases h11 : s = [61]
  · simp [h11]
  by_cases h12 : s = [60, 62]
  · simp [h12]
  by_cases h13 : s = [60]
  · simp [h13]
  by_cases h14 : s = [60, 61]
  · simp [h14]
  by_cases h15 : s = [62]
  · simp [h15]
  by_cases h16 : s = [62, 61]
  · simp [h16]
  exact .inr (.inr (.inr (.inr (.inr (.inr (.inr (.inr (.inr (.inr (.inr (.inr (.inr (.inr (.inr (.inr (.inr (⟨h0, h1, h2, h3, h4, h5, h6, h7, h8, h9, h10, h11, h12, h13, h14, h15, h16⟩)))))))))))))))))
theorem opk_none {s : List UInt8} (h : NoOp s) : opk s = .none := by
  unfold opk
  simp only [h.n0, h.n1, h.n2, h.n3, h.n4, h.n5, h.n6, h.n7, h.n8, h.n9, h.n10, h.n11, h.n12, h.n13, h.n14, h.n15, h.n16, if_false]
set_option maxHeartbeats 1000000 in
theorem refArgs_any (s : List UInt8) (w : World) : Calls Try.prog 49 #[.string (str s)] w (fun e w' => e = .returned (.int .i64 (argsF (opk s) : Nat)) ∧ w = w') := by
  rcases op_cases s with rfl | rfl | rfl | rfl | rfl | rfl | rfl | rfl | rfl | rfl | rfl | rfl | rfl | rfl | rfl | rfl | rfl | hn
  rotate_right 1
  · have ho := opk_none hn
    have b0 : (s == [73, 83, 78, 85, 76, 76]) = false := by simpa using hn.n0
    have p0 := hn.n0
    have b1 : (s == [78, 79, 84, 78, 85, 76, 76]) = false := by simpa using hn.n1
    have p1 := hn.n1
    have b2 : (s == [78, 79, 84]) = false := by simpa using hn.n2
    have p2 := hn.n2
    have b3 : (s == [78, 69, 71]) = false := by simpa using hn.n3
    have p3 := hn.n3
    have b4 : (s == [79, 82]) = false := by simpa using hn.n4
    have p4 := hn.n4
    have b5 : (s == [65, 78, 68]) = false := by simpa using hn.n5
    have p5 := hn.n5
    have b6 : (s == [43]) = false := by simpa using hn.n6
    have p6 := hn.n6
    have b7 : (s == [45]) = false := by simpa using hn.n7
    have p7 := hn.n7
    have b8 : (s == [42]) = false := by simpa using hn.n8
    have p8 := hn.n8
    have b9 : (s == [47]) = false := by simpa using hn.n9
    have p9 := hn.n9
    have b10 : (s == [37]) = false := by simpa using hn.n10
    have p10 := hn.n10
    have b11 : (s == [61]) = false := by simpa using hn.n11
    have p11 := hn.n11
    have b12 : (s == [60, 62]) = false := by simpa using hn.n12
    have p12 := hn.n12
    have b13 : (s == [60]) = false := by simpa using hn.n13
    have p13 := hn.n13
    have b14 : (s == [60, 61]) = false := by simpa using hn.n14
    have p14 := hn.n14
    have b15 : (s == [62]) = false := by simpa using hn.n15
    have p15 := hn.n15
    have b16 : (s == [62, 61]) = false := by simpa using hn.n16
    have p16 := hn.n16
    clear hn
    have Ho := Lib.hid ho
    clear ho
    go_enter Try.func49, Try.ntmps49
    go_wp2
    go_ret
    exact ⟨by simp [Ho.out, argsF], rfl⟩
  all_goals
    go_enter Try.func49, Try.ntmps49
    go_wp2
    go_ret
    exact ⟨by simp [argsF, opk], rfl⟩
set_option maxHeartbeats 1000000 in
theorem reflogic_any (s : List UInt8) (w : World) : Calls Try.prog 50 #[.string (str s)] w (fun e w' => e = .returned (.bool (logicB (opk s))) ∧ w = w') := by
  rcases op_cases s with rfl | rfl | rfl | rfl | rfl | rfl | rfl | rfl | rfl | rfl | rfl | rfl | rfl | rfl | rfl | rfl | rfl | hn
  rotate_right 1
  · have ho := opk_none hn
    have b0 : (s == [73, 83, 78, 85, 76, 76]) = false := by simpa using hn.n0
    have p0 := hn.n0
    have b1 : (s == [78, 79, 84, 78, 85, 76, 76]) = false := by simpa using hn.n1
    have p1 := hn.n1
    have b2 : (s == [78, 79, 84]) = false := by simpa using hn.n2
    have p2 := hn.n2
    have b3 : (s == [78, 69, 71]) = false := by simpa using hn.n3
    have p3 := hn.n3
    have b4 : (s == [79, 82]) = false := by simpa using hn.n4
    have p4 := hn.n4
    have b5 : (s == [65, 78, 68]) = false := by simpa using hn.n5
    have p5 := hn.n5
    have b6 : (s == [43]) = false := by simpa using hn.n6
    have p6 := hn.n6
    have b7 : (s == [45]) = false := by simpa using hn.n7
    have p7 := hn.n7
    have b8 : (s == [42]) = false := by simpa using hn.n8
    have p8 := hn.n8
    have b9 : (s == [47]) = false := by simpa using hn.n9
    have p9 := hn.n9
    have b10 : (s == [37]) = false := by simpa using hn.n10
    have p10 := hn.n10
    have b11 : (s == [61]) = false := by simpa using hn.n11
    have p11 := hn.n11
    have b12 : (s == [60, 62]) = false := by simpa using hn.n12
    have p12 := hn.n12
    have b13 : (s == [60]) = false := by simpa using hn.n13
    have p13 := hn.n13
    have b14 : (s == [60, 61]) = false := by simpa using hn.n14
    have p14 := hn.n14
    have b15 : (s == [62]) = false := by simpa using hn.n15
    have p15 := hn.n15
    have b16 : (s == [62, 61]) = false := by simpa using hn.n16
    have p16 := hn.n16
    clear hn
    have Ho := Lib.hid ho
    clear ho
    go_enter Try.func50, Try.ntmps50
    go_wp2
    go_ret
    exact ⟨by simp [Ho.out, logicB], rfl⟩
  all_goals
    go_enter Try.func50, Try.ntmps50
    go_wp2
    go_ret
    exact ⟨by simp [logicB, opk], rfl⟩
set_option maxHeartbeats 1000000 in
theorem refarith_any (s : List UInt8) (w : World) : Calls Try.prog 42 #[.string (str s)] w (fun e w' => e = .returned (.bool (arithB (opk s))) ∧ w = w') := by
  rcases op_cases s with rfl | rfl | rfl | rfl | rfl | rfl | rfl | rfl | rfl | rfl | rfl | rfl | rfl | rfl | rfl | rfl | rfl | hn
  rotate_right 1
  · have ho := opk_none hn
    have b0 : (s == [73, 83, 78, 85, 76, 76]) = false := by simpa using hn.n0
    have p0 := hn.n0
    have b1 : (s == [78, 79, 84, 78, 85, 76, 76]) = false := by simpa using hn.n1
    have p1 := hn.n1
    have b2 : (s == [78, 79, 84]) = false := by simpa using hn.n2
    have p2 := hn.n2
    have b3 : (s == [78, 69, 71]) = false := by simpa using hn.n3
    have p3 := hn.n3
    have b4 : (s == [79, 82]) = false := by simpa using hn.n4
    have p4 := hn.n4
    have b5 : (s == [65, 78, 68]) = false := by simpa using hn.n5
    have p5 := hn.n5
    have b6 : (s == [43]) = false := by simpa using hn.n6
    have p6 := hn.n6
    have b7 : (s == [45]) = false := by simpa using hn.n7
    have p7 := hn.n7
    have b8 : (s == [42]) = false := by simpa using hn.n8
    have p8 := hn.n8
    have b9 : (s == [47]) = false := by simpa using hn.n9
    have p9 := hn.n9
    have b10 : (s == [37]) = false := by simpa using hn.n10
    have p10 := hn.n10
    have b11 : (s == [61]) = false := by simpa using hn.n11
    have p11 := hn.n11
    have b12 : (s == [60, 62]) = false := by simpa using hn.n12
    have p12 := hn.n12
    have b13 : (s == [60]) = false := by simpa using hn.n13
    have p13 := hn.n13
    have b14 : (s == [60, 61]) = false := by simpa using hn.n14
    have p14 := hn.n14
    have b15 : (s == [62]) = false := by simpa using hn.n15
    have p15 := hn.n15
    have b16 : (s == [62, 61]) = false := by simpa using hn.n16
    have p16 := hn.n16
    clear hn
    have Ho := Lib.hid ho
    clear ho
    go_enter Try.func42, Try.ntmps42
    go_wp2
    go_ret
    exact ⟨by simp [Ho.out, arithB], rfl⟩
  all_goals
    go_enter Try.func42, Try.ntmps42
    go_wp2
    go_ret
    exact ⟨by simp [arithB, opk], rfl⟩
set_option maxHeartbeats 400000 in
theorem refsign_any (b : Bool) (w : World) : Calls Try.prog 60 #[.bool b] w fun e w' => e = .returned (.int .i64 (if b then -1 else 1)) ∧ w = w' := by
  cases b
  all_goals
    go_enter Try.func60, Try.ntmps60
    go_wp2
    go_ret
    exact ⟨rfl, rfl⟩
set_option maxHeartbeats 400000 in
theorem reftruth_any (b : Bool) (w : World) : Calls Try.prog 39 #[.bool b] w (ValP (truthV b) w) := by
  cases b
  all_goals
    go_enter Try.func39, Try.ntmps39
    go_wp2
    refine bodyPost_ret (v := valV (truthV _)) (by simp [results, Try.results39, go_sem, truthV, str]) rfl ⟨rfl, ?_⟩
    exact (Same.refl _ _).alloc _
def threeF (v : Val) : Int := if v.kind = 0 then 2 else v.n
set_option maxHeartbeats 400000 in
theorem refthree_any (v : Val) (w : World) : Calls Try.prog 41 #[valV v] w (fun e w' => e = .returned (.int .i64 (threeF v)) ∧ Same (fun _ => True) w w') := by
  by_cases h : v.kind = 0
  · have K : threeF v = 2 := if_pos h
    rw [K]
    have b : (v.kind == 0) = true := by simpa using h
    clear K
    go_enter Try.func41, Try.ntmps41
    go_wp2
    go_ret
    exact ⟨rfl, (Same.refl _ _).alloc _⟩
  · have K : threeF v = v.n := if_neg h
    rw [K]
    have b : (v.kind == 0) = false := by simpa using h
    clear K
    go_enter Try.func41, Try.ntmps41
    go_wp2
    go_ret
    exact ⟨rfl, (Same.refl _ _).alloc _⟩
theorem ValEP.mk' {r : Val × Int} {w w' : World} {v : Val} {n : Int} (h : r = (v, n)) (hs : Same (fun _ => True) w w') : ValEP r w (.returned (.tuple #[valV v, .int .i64 n])) w' := by subst h; exact ⟨rfl, hs⟩
set_option maxHeartbeats 400000 in
theorem exnumber_any (n e : Int) (w : World) : Calls Try.prog 53 #[.int .i64 n, .int .i64 e] w (ValEP (numF (n, e)) w) := by
  by_cases h : e = 0
  · have K : numF (n, e) = (⟨2, n, []⟩, 0) := by unfold numF; rw [if_neg (by simpa using h)]
    rw [K]
    have b : (e != 0) = false := by simpa using h
    clear K h
    go_enter Try.func53, Try.ntmps53
    go_wp2
    exact bodyPost_ret (v := .tuple #[valV ⟨2, n, []⟩, .int .i64 0]) (by simp [results, Try.results53, go_sem, str]) rfl (ValEP.mk' rfl ((Same.refl _ _).alloc _))
  · have K : numF (n, e) = (.zero, e) := by unfold numF; rw [if_pos (by simpa using h)]
    rw [K]
    have b : (e != 0) = true := by simpa using h
    clear K h
    go_enter Try.func53, Try.ntmps53
    go_wp2
    exact bodyPost_ret (v := .tuple #[valV .zero, .int .i64 e]) (by simp [results, Try.results53, go_sem, str, Val.zero]) rfl (ValEP.mk' rfl ((Same.refl _ _).alloc _))
set_option maxHeartbeats 1000000 in
theorem exholds_any (s : List UInt8) (c : Int) (w : World) : Calls Try.prog 55 #[.string (str s), .int .i64 c] w (fun e w' => e = .returned (.bool (holdsF (opk s) c)) ∧ w = w') := by
  rcases op_cases s with rfl | rfl | rfl | rfl | rfl | rfl | rfl | rfl | rfl | rfl | rfl | rfl | rfl | rfl | rfl | rfl | rfl | hn
  rotate_right 1
  · have ho := opk_none hn
    have b0 : (s == [73, 83, 78, 85, 76, 76]) = false := by simpa using hn.n0
    have p0 := hn.n0
    have b1 : (s == [78, 79, 84, 78, 85, 76, 76]) = false := by simpa using hn.n1
    have p1 := hn.n1
    have b2 : (s == [78, 79, 84]) = false := by simpa using hn.n2
    have p2 := hn.n2
    have b3 : (s == [78, 69, 71]) = false := by simpa using hn.n3
    have p3 := hn.n3
    have b4 : (s == [79, 82]) = false := by simpa using hn.n4
    have p4 := hn.n4
    have b5 : (s == [65, 78, 68]) = false := by simpa using hn.n5
    have p5 := hn.n5
    have b6 : (s == [43]) = false := by simpa using hn.n6
    have p6 := hn.n6
    have b7 : (s == [45]) = false := by simpa using hn.n7
    have p7 := hn.n7
    have b8 : (s == [42]) = false := by simpa using hn.n8
    have p8 := hn.n8
    have b9 : (s == [47]) = false := by simpa using hn.n9
    have p9 := hn.n9
    have b10 : (s == [37]) = false := by simpa using hn.n10
    have p10 := hn.n10
    have b11 : (s == [61]) = false := by simpa using hn.n11
    have p11 := hn.n11
    have b12 : (s == [60, 62]) = false := by simpa using hn.n12
    have p12 := hn.n12
    have b13 : (s == [60]) = false := by simpa using hn.n13
    have p13 := hn.n13
    have b14 : (s == [60, 61]) = false := by simpa using hn.n14
    have p14 := hn.n14
    have b15 : (s == [62]) = false := by simpa using hn.n15
    have p15 := hn.n15
    have b16 : (s == [62, 61]) = false := by simpa using hn.n16
    have p16 := hn.n16
    clear hn
    have Ho := Lib.hid ho
    clear ho
    rcases Int.lt_trichotomy c 0 with hc | hc | hc
    · have b0 : (c == 0) = false := by simp; omega
      have b1 : (c != 0) = true := by simp; omega
      have d0 : decide (c < 0) = true := by simpa using hc
      have d1 : decide (c ≤ 0) = true := by simp; omega
      have d2 : decide (0 < c) = false := by simp; omega
      have d3 : decide (0 ≤ c) = false := by simp; omega
      go_enter Try.func55, Try.ntmps55
      go_wp2
      go_ret
      exact ⟨by simp [holdsF, Ho.out]; try omega, rfl⟩
    · subst hc
      go_enter Try.func55, Try.ntmps55
      go_wp2
      go_ret
      exact ⟨by simp [holdsF, Ho.out], rfl⟩
    · have b0 : (c == 0) = false := by simp; omega
      have b1 : (c != 0) = true := by simp; omega
      have d0 : decide (c < 0) = false := by simp; omega
      have d1 : decide (c ≤ 0) = false := by simp; omega
      have d2 : decide (0 < c) = true := by simpa using hc
      have d3 : decide (0 ≤ c) = true := by simp; omega
      go_enter Try.func55, Try.ntmps55
      go_wp2
      go_ret
      exact ⟨by simp [holdsF, Ho.out]; try omega, rfl⟩
  all_goals
    rcases Int.lt_trichotomy c 0 with hc | hc | hc
    · have b0 : (c == 0) = false := by simp; omega
      have b1 : (c != 0) = true := by simp; omega
      have d0 : decide (c < 0) = true := by simpa using hc
      have d1 : decide (c ≤ 0) = true := by simp; omega
      have d2 : decide (0 < c) = false := by simp; omega
      have d3 : decide (0 ≤ c) = false := by simp; omega
      go_enter Try.func55, Try.ntmps55
      go_wp2
      go_ret
      exact ⟨by simp [holdsF, opk]; try omega, rfl⟩
    · subst hc
      go_enter Try.func55, Try.ntmps55
      go_wp2
      go_ret
      exact ⟨by simp [holdsF, opk], rfl⟩
    · have b0 : (c == 0) = false := by simp; omega
      have b1 : (c != 0) = true := by simp; omega
      have d0 : decide (c < 0) = false := by simp; omega
      have d1 : decide (c ≤ 0) = false := by simp; omega
      have d2 : decide (0 < c) = true := by simpa using hc
      have d3 : decide (0 ≤ c) = true := by simp; omega
      go_enter Try.func55, Try.ntmps55
      go_wp2
      go_ret
      exact ⟨by simp [holdsF, opk]; try omega, rfl⟩
set_option maxHeartbeats 1000000 in
theorem exMay_any (v : Val) (w : World) : Calls Try.prog 28 #[valV v] w (BoolP (mayV v) w) := by
  obtain ⟨k, n, s⟩ := v
  by_cases h0 : k = 0
  · subst h0
    have e : mayV ⟨0, n, s⟩ = (decide (n = 0) && decide (s = [])) := rfl
    by_cases a : n = 0 <;> by_cases c : s = []
    all_goals
      have b1 : (n == 0) = decide (n = 0) := rfl
      have b2 : s.isEmpty = decide (s = []) := by cases s <;> rfl
      simp only [a, c, decide_true, decide_false, Bool.and_true, Bool.true_and, Bool.and_false, Bool.false_and] at e b1 b2
      try subst a
      try subst c
      have E := Lib.hid e
      clear e
      go_enter Try.func28, Try.ntmps28
      go_wp2
      go_ret
      exact ⟨by simp [E.out], (Same.refl _ _).alloc _⟩
  · have k0 : (k == 0) = false := by simpa using h0
    by_cases h1 : k = 1
    · subst h1
      clear k0 h0
      have e : mayV ⟨1, n, s⟩ = ((decide (n = 0) || decide (n = 1)) && decide (s = [])) := rfl
      by_cases a : n = 0 <;> by_cases d : n = 1 <;> by_cases c : s = []
      all_goals first | (exfalso; omega) | skip
      all_goals
        have b1 : (n == 0) = decide (n = 0) := rfl
        have b3 : (n == 1) = decide (n = 1) := rfl
        have b2 : s.isEmpty = decide (s = []) := by cases s <;> rfl
        simp only [a, d, c, decide_true, decide_false, Bool.and_true, Bool.true_and, Bool.and_false, Bool.false_and, Bool.or_true, Bool.true_or, Bool.or_false, Bool.or_self] at e b1 b2 b3
        try subst a
        try subst d
        try subst c
        have E := Lib.hid e
        clear e
        go_enter Try.func28, Try.ntmps28
        go_wp2
        go_ret
        exact ⟨by simp [E.out], (Same.refl _ _).alloc _⟩
    · have k1 : (k == 1) = false := by simpa using h1
      by_cases h2 : k = 2
      · subst h2
        clear k0 h0 k1 h1
        have e : mayV ⟨2, n, s⟩ = decide (s = []) := rfl
        by_cases c : s = []
        all_goals
          have b2 : s.isEmpty = decide (s = []) := by cases s <;> rfl
          simp only [c, decide_true, decide_false] at e b2
          try subst c
          have E := Lib.hid e
          clear e
          go_enter Try.func28, Try.ntmps28
          go_wp2
          go_ret
          exact ⟨by simp [E.out], (Same.refl _ _).alloc _⟩
      · have k2 : (k == 2) = false := by simpa using h2
        by_cases h3 : k = 3
        · subst h3
          clear k0 h0 k1 h1 k2 h2
          have e : mayV ⟨3, n, s⟩ = (decide (n = 0) && decide (s.length ≤ 64)) := rfl
          by_cases a : n = 0 <;> by_cases c : s.length ≤ 64
          all_goals
            have b1 : (n == 0) = decide (n = 0) := rfl
            have hz : (str s).size = s.length := str_size s
            simp only [a, c, decide_true, decide_false, Bool.and_true, Bool.true_and, Bool.and_false, Bool.false_and] at e b1
            try subst a
            have E := Lib.hid e
            clear e
            go_enter Try.func28, Try.ntmps28
            go_wp2
            go_ret
            exact ⟨by rw [E.out]; simp; try omega, (Same.refl _ _).alloc _⟩
        · have k3 : (k == 3) = false := by simpa using h3
          have e : mayV ⟨k, n, s⟩ = false := by unfold mayV; simp [h0, h1, h2, h3]
          have E := Lib.hid e
          clear e
          go_enter Try.func28, Try.ntmps28
          go_wp2
          go_ret
          exact ⟨by simp [E.out], (Same.refl _ _).alloc _⟩
set_option maxHeartbeats 1000000 in
theorem refMay_any (v : Val) (w : World) : Calls Try.prog 35 #[valV v] w (BoolP (mayV v) w) := by
  obtain ⟨k, n, s⟩ := v
  by_cases h0 : k = 0
  · subst h0
    have e : mayV ⟨0, n, s⟩ = (decide (n = 0) && decide (s = [])) := rfl
    by_cases a : n = 0 <;> by_cases c : s = []
    all_goals
      have b1 : (n == 0) = decide (n = 0) := rfl
      have b2 : s.isEmpty = decide (s = []) := by cases s <;> rfl
      simp only [a, c, decide_true, decide_false, Bool.and_true, Bool.true_and, Bool.and_false, Bool.false_and] at e b1 b2
      try subst a
      try subst c
      have E := Lib.hid e
      clear e
      go_enter Try.func35, Try.ntmps35
      go_wp2
      go_ret
      exact ⟨by simp [E.out], (Same.refl _ _).alloc _⟩
  · have k0 : (k == 0) = false := by simpa using h0
    by_cases h1 : k = 1
    · subst h1
      clear k0 h0
      have e : mayV ⟨1, n, s⟩ = ((decide (n = 0) || decide (n = 1)) && decide (s = [])) := rfl
      by_cases a : n = 0 <;> by_cases d : n = 1 <;> by_cases c : s = []
      all_goals first | (exfalso; omega) | skip
      all_goals
        have b1 : (n == 0) = decide (n = 0) := rfl
        have b3 : (n == 1) = decide (n = 1) := rfl
        have b2 : s.isEmpty = decide (s = []) := by cases s <;> rfl
        simp only [a, d, c, decide_true, decide_false, Bool.and_true, Bool.true_and, Bool.and_false, Bool.false_and, Bool.or_true, Bool.true_or, Bool.or_false, Bool.or_self] at e b1 b2 b3
        try subst a
        try subst d
        try subst c
        have E := Lib.hid e
        clear e
        go_enter Try.func35, Try.ntmps35
        go_wp2
        go_ret
        exact ⟨by simp [E.out], (Same.refl _ _).alloc _⟩
    · have k1 : (k == 1) = false := by simpa using h1
      by_cases h2 : k = 2
      · subst h2
        clear k0 h0 k1 h1
        have e : mayV ⟨2, n, s⟩ = decide (s = []) := rfl
        by_cases c : s = []
        all_goals
          have b2 : s.isEmpty = decide (s = []) := by cases s <;> rfl
          simp only [c, decide_true, decide_false] at e b2
          try subst c
          have E := Lib.hid e
          clear e
          go_enter Try.func35, Try.ntmps35
          go_wp2
          go_ret
          exact ⟨by simp [E.out], (Same.refl _ _).alloc _⟩
      · have k2 : (k == 2) = false := by simpa using h2
        by_cases h3 : k = 3
        · subst h3
          clear k0 h0 k1 h1 k2 h2
          have e : mayV ⟨3, n, s⟩ = (decide (n = 0) && decide (s.length ≤ 64)) := rfl
          by_cases a : n = 0 <;> by_cases c : s.length ≤ 64
          all_goals
            have b1 : (n == 0) = decide (n = 0) := rfl
            have hz : (str s).size = s.length := str_size s
            simp only [a, c, decide_true, decide_false, Bool.and_true, Bool.true_and, Bool.and_false, Bool.false_and] at e b1
            try subst a
            have E := Lib.hid e
            clear e
            go_enter Try.func35, Try.ntmps35
            go_wp2
            go_ret
            exact ⟨by rw [E.out]; simp; try omega, (Same.refl _ _).alloc _⟩
        · have k3 : (k == 3) = false := by simpa using h3
          have e : mayV ⟨k, n, s⟩ = false := by unfold mayV; simp [h0, h1, h2, h3]
          have E := Lib.hid e
          clear e
          go_enter Try.func35, Try.ntmps35
          go_wp2
          go_ret
          exact ⟨by simp [E.out], (Same.refl _ _).alloc _⟩
end Go.Proofs.Ytakbikibahhepaa
