/-
  The walk of expr.operator.
-/
import Derived.Test.YtakbikibahhepaaExW7
set_option linter.unusedSimpArgs false
set_option linter.unusedVariables false
namespace Go.Proofs.Ytakbikibahhepaa
open Go.RowKit

theorem InR.form {w : World} {S : Nat → Prop} {v : Value} {l : List Int} (h : InR w S v l) : ∃ A c, v = .slice A l.length c ∧ l.length ≤ c ∧ c ≤ maxLen := by
  obtain ⟨A, c, h1, h2, h3, _⟩ := h
  exact ⟨A, c, h1, h2, h3⟩
theorem InR.two {w : World} {S : Nat → Prop} {A : Option Addr} {n c : Nat} {a b : Int} {l : List Int} (h : InR w S (.slice A n c) (a :: b :: l)) : ∃ ad, A = some ad ∧ w.cell? ad = some (.int .i64 a) ∧ w.cell? ⟨ad.block, ad.off + 1, none⟩ = some (.int .i64 b) := by
  obtain ⟨ad, rfl, hS, d0⟩ := InR.at_ h (i := 0) (by simp)
  obtain ⟨ad', e, _, e0⟩ := InR.at_ h (i := 1) (by simp)
  injection e with e
  subst e
  simp only [add_zero, List.getElem_cons_zero, List.getElem_cons_succ] at d0 e0
  rw [addr_add _ _ (by omega)] at e0
  exact ⟨ad, rfl, d0, e0⟩
/-- As NumP, in a world that grew. -/
def NumS (r : Int × Int) (w : World) (e : Ending) (w' : World) : Prop := e = .returned (.tuple #[.int .i64 r.1, .int .i64 r.2]) ∧ Same (fun _ => True) w w'
theorem NumP.toS {r : Int × Int} {w w' : World} {e : Ending} (h : NumP r w e w') : NumS r w e w' := by obtain ⟨h1, rfl⟩ := h; exact ⟨h1, Same.refl _ _⟩
set_option maxHeartbeats 2000000 in
theorem operator_isnull (v : Value) (l : List Int) (S : Nat → Prop) (w : World) (hv : InR w S v l) : Calls Try.prog 34 #[.string (str [73, 83, 78, 85, 76, 76]), v] w (NumP (toldF (decide (l.length = 1)) true 1) w) := by
  obtain ⟨A, cp, rfl, hc, hm⟩ := hv.form
  unfold maxLen at hm
  obtain ⟨B1, hB1⟩ : ∃ B1, decide (l.length = 1) = B1 := ⟨_, rfl⟩
  obtain ⟨B2, hB2⟩ : ∃ B2, decide (l.length = 2) = B2 := ⟨_, rfl⟩
  have b1 : ((l.length : Int) == 1) = B1 := by rw [← hB1]; exact decide_eq_decide.2 (by omega)
  have b2 : ((l.length : Int) == 2) = B2 := by rw [← hB2]; exact decide_eq_decide.2 (by omega)
  rw [hB1]
  clear hB1 hB2 hv
  go_enter Try.func34, Try.ntmps34
  go_wp2_with (first | (go_at_call 47; refine (told_any _ _ _ _).mono ?_; rintro e w' ⟨rfl, rfl⟩) | (go_at_call 48; refine ga.mono ?_; rintro e w' ⟨rfl, rfl⟩))
  go_ret2
  exact ⟨rfl, rfl⟩
set_option maxHeartbeats 2000000 in
theorem operator_notnull (v : Value) (l : List Int) (S : Nat → Prop) (w : World) (hv : InR w S v l) : Calls Try.prog 34 #[.string (str [78, 79, 84, 78, 85, 76, 76]), v] w (NumP (toldF (decide (l.length = 1)) true 1) w) := by
  obtain ⟨A, cp, rfl, hc, hm⟩ := hv.form
  unfold maxLen at hm
  obtain ⟨B1, hB1⟩ : ∃ B1, decide (l.length = 1) = B1 := ⟨_, rfl⟩
  obtain ⟨B2, hB2⟩ : ∃ B2, decide (l.length = 2) = B2 := ⟨_, rfl⟩
  have b1 : ((l.length : Int) == 1) = B1 := by rw [← hB1]; exact decide_eq_decide.2 (by omega)
  have b2 : ((l.length : Int) == 2) = B2 := by rw [← hB2]; exact decide_eq_decide.2 (by omega)
  rw [hB1]
  clear hB1 hB2 hv
  go_enter Try.func34, Try.ntmps34
  go_wp2_with (first | (go_at_call 47; refine (told_any _ _ _ _).mono ?_; rintro e w' ⟨rfl, rfl⟩) | (go_at_call 48; refine ga.mono ?_; rintro e w' ⟨rfl, rfl⟩))
  go_ret2
  exact ⟨rfl, rfl⟩
set_option maxHeartbeats 2000000 in
theorem operator_not (v : Value) (l : List Int) (S : Nat → Prop) (w : World) (hv : InR w S v l) : Calls Try.prog 34 #[.string (str [78, 79, 84]), v] w (NumP (toldF (decide (l.length = 1)) (kAll l 1) 1) w) := by
  obtain ⟨A, cp, rfl, hc, hm⟩ := hv.form
  unfold maxLen at hm
  obtain ⟨B1, hB1⟩ : ∃ B1, decide (l.length = 1) = B1 := ⟨_, rfl⟩
  obtain ⟨B2, hB2⟩ : ∃ B2, decide (l.length = 2) = B2 := ⟨_, rfl⟩
  have b1 : ((l.length : Int) == 1) = B1 := by rw [← hB1]; exact decide_eq_decide.2 (by omega)
  have b2 : ((l.length : Int) == 2) = B2 := by rw [← hB2]; exact decide_eq_decide.2 (by omega)
  rw [hB1]
  have ga := fun W => exall_any (.slice A l.length cp) l 1 S W
  have ga := fun W => fun h => ga W h
  obtain ⟨K, hK⟩ : ∃ K, kAll l 1 = K := ⟨_, rfl⟩
  have ga : Calls Try.prog 48 #[.slice A l.length cp, .int .i64 1] w (fun e w' => e = .returned (.bool K) ∧ w = w') := by rw [← hK]; exact ga w hv
  rw [hK]
  clear hK
  clear hB1 hB2 hv
  go_enter Try.func34, Try.ntmps34
  go_wp2_with (first | (go_at_call 47; refine (told_any _ _ _ _).mono ?_; rintro e w' ⟨rfl, rfl⟩) | (go_at_call 48; refine ga.mono ?_; rintro e w' ⟨rfl, rfl⟩))
  go_ret2
  exact ⟨rfl, rfl⟩
set_option maxHeartbeats 2000000 in
theorem operator_neg (v : Value) (l : List Int) (S : Nat → Prop) (w : World) (hv : InR w S v l) : Calls Try.prog 34 #[.string (str [78, 69, 71]), v] w (NumP (toldF (decide (l.length = 1)) (kAll l 2) 2) w) := by
  obtain ⟨A, cp, rfl, hc, hm⟩ := hv.form
  unfold maxLen at hm
  obtain ⟨B1, hB1⟩ : ∃ B1, decide (l.length = 1) = B1 := ⟨_, rfl⟩
  obtain ⟨B2, hB2⟩ : ∃ B2, decide (l.length = 2) = B2 := ⟨_, rfl⟩
  have b1 : ((l.length : Int) == 1) = B1 := by rw [← hB1]; exact decide_eq_decide.2 (by omega)
  have b2 : ((l.length : Int) == 2) = B2 := by rw [← hB2]; exact decide_eq_decide.2 (by omega)
  rw [hB1]
  have ga := fun W => exall_any (.slice A l.length cp) l 2 S W
  have ga := fun W => fun h => ga W h
  obtain ⟨K, hK⟩ : ∃ K, kAll l 2 = K := ⟨_, rfl⟩
  have ga : Calls Try.prog 48 #[.slice A l.length cp, .int .i64 2] w (fun e w' => e = .returned (.bool K) ∧ w = w') := by rw [← hK]; exact ga w hv
  rw [hK]
  clear hK
  clear hB1 hB2 hv
  go_enter Try.func34, Try.ntmps34
  go_wp2_with (first | (go_at_call 47; refine (told_any _ _ _ _).mono ?_; rintro e w' ⟨rfl, rfl⟩) | (go_at_call 48; refine ga.mono ?_; rintro e w' ⟨rfl, rfl⟩))
  go_ret2
  exact ⟨rfl, rfl⟩
set_option maxHeartbeats 2000000 in
theorem operator_or (v : Value) (l : List Int) (S : Nat → Prop) (w : World) (hv : InR w S v l) : Calls Try.prog 34 #[.string (str [79, 82]), v] w (NumP (toldF (decide (l.length = 2)) (kAll l 1) 1) w) := by
  obtain ⟨A, cp, rfl, hc, hm⟩ := hv.form
  unfold maxLen at hm
  obtain ⟨B1, hB1⟩ : ∃ B1, decide (l.length = 1) = B1 := ⟨_, rfl⟩
  obtain ⟨B2, hB2⟩ : ∃ B2, decide (l.length = 2) = B2 := ⟨_, rfl⟩
  have b1 : ((l.length : Int) == 1) = B1 := by rw [← hB1]; exact decide_eq_decide.2 (by omega)
  have b2 : ((l.length : Int) == 2) = B2 := by rw [← hB2]; exact decide_eq_decide.2 (by omega)
  rw [hB2]
  have ga := fun W => exall_any (.slice A l.length cp) l 1 S W
  have ga := fun W => fun h => ga W h
  obtain ⟨K, hK⟩ : ∃ K, kAll l 1 = K := ⟨_, rfl⟩
  have ga : Calls Try.prog 48 #[.slice A l.length cp, .int .i64 1] w (fun e w' => e = .returned (.bool K) ∧ w = w') := by rw [← hK]; exact ga w hv
  rw [hK]
  clear hK
  clear hB1 hB2 hv
  go_enter Try.func34, Try.ntmps34
  go_wp2_with (first | (go_at_call 47; refine (told_any _ _ _ _).mono ?_; rintro e w' ⟨rfl, rfl⟩) | (go_at_call 48; refine ga.mono ?_; rintro e w' ⟨rfl, rfl⟩))
  go_ret2
  exact ⟨rfl, rfl⟩
set_option maxHeartbeats 2000000 in
theorem operator_and (v : Value) (l : List Int) (S : Nat → Prop) (w : World) (hv : InR w S v l) : Calls Try.prog 34 #[.string (str [65, 78, 68]), v] w (NumP (toldF (decide (l.length = 2)) (kAll l 1) 1) w) := by
  obtain ⟨A, cp, rfl, hc, hm⟩ := hv.form
  unfold maxLen at hm
  obtain ⟨B1, hB1⟩ : ∃ B1, decide (l.length = 1) = B1 := ⟨_, rfl⟩
  obtain ⟨B2, hB2⟩ : ∃ B2, decide (l.length = 2) = B2 := ⟨_, rfl⟩
  have b1 : ((l.length : Int) == 1) = B1 := by rw [← hB1]; exact decide_eq_decide.2 (by omega)
  have b2 : ((l.length : Int) == 2) = B2 := by rw [← hB2]; exact decide_eq_decide.2 (by omega)
  rw [hB2]
  have ga := fun W => exall_any (.slice A l.length cp) l 1 S W
  have ga := fun W => fun h => ga W h
  obtain ⟨K, hK⟩ : ∃ K, kAll l 1 = K := ⟨_, rfl⟩
  have ga : Calls Try.prog 48 #[.slice A l.length cp, .int .i64 1] w (fun e w' => e = .returned (.bool K) ∧ w = w') := by rw [← hK]; exact ga w hv
  rw [hK]
  clear hK
  clear hB1 hB2 hv
  go_enter Try.func34, Try.ntmps34
  go_wp2_with (first | (go_at_call 47; refine (told_any _ _ _ _).mono ?_; rintro e w' ⟨rfl, rfl⟩) | (go_at_call 48; refine ga.mono ?_; rintro e w' ⟨rfl, rfl⟩))
  go_ret2
  exact ⟨rfl, rfl⟩
set_option maxHeartbeats 2000000 in
theorem operator_add (v : Value) (l : List Int) (S : Nat → Prop) (w : World) (hv : InR w S v l) : Calls Try.prog 34 #[.string (str [43]), v] w (NumP (toldF (decide (l.length = 2)) (kAll l 2) 2) w) := by
  obtain ⟨A, cp, rfl, hc, hm⟩ := hv.form
  unfold maxLen at hm
  obtain ⟨B1, hB1⟩ : ∃ B1, decide (l.length = 1) = B1 := ⟨_, rfl⟩
  obtain ⟨B2, hB2⟩ : ∃ B2, decide (l.length = 2) = B2 := ⟨_, rfl⟩
  have b1 : ((l.length : Int) == 1) = B1 := by rw [← hB1]; exact decide_eq_decide.2 (by omega)
  have b2 : ((l.length : Int) == 2) = B2 := by rw [← hB2]; exact decide_eq_decide.2 (by omega)
  rw [hB2]
  have ga := fun W => exall_any (.slice A l.length cp) l 2 S W
  have ga := fun W => fun h => ga W h
  obtain ⟨K, hK⟩ : ∃ K, kAll l 2 = K := ⟨_, rfl⟩
  have ga : Calls Try.prog 48 #[.slice A l.length cp, .int .i64 2] w (fun e w' => e = .returned (.bool K) ∧ w = w') := by rw [← hK]; exact ga w hv
  rw [hK]
  clear hK
  clear hB1 hB2 hv
  go_enter Try.func34, Try.ntmps34
  go_wp2_with (first | (go_at_call 47; refine (told_any _ _ _ _).mono ?_; rintro e w' ⟨rfl, rfl⟩) | (go_at_call 48; refine ga.mono ?_; rintro e w' ⟨rfl, rfl⟩))
  go_ret2
  exact ⟨rfl, rfl⟩
set_option maxHeartbeats 2000000 in
theorem operator_sub (v : Value) (l : List Int) (S : Nat → Prop) (w : World) (hv : InR w S v l) : Calls Try.prog 34 #[.string (str [45]), v] w (NumP (toldF (decide (l.length = 2)) (kAll l 2) 2) w) := by
  obtain ⟨A, cp, rfl, hc, hm⟩ := hv.form
  unfold maxLen at hm
  obtain ⟨B1, hB1⟩ : ∃ B1, decide (l.length = 1) = B1 := ⟨_, rfl⟩
  obtain ⟨B2, hB2⟩ : ∃ B2, decide (l.length = 2) = B2 := ⟨_, rfl⟩
  have b1 : ((l.length : Int) == 1) = B1 := by rw [← hB1]; exact decide_eq_decide.2 (by omega)
  have b2 : ((l.length : Int) == 2) = B2 := by rw [← hB2]; exact decide_eq_decide.2 (by omega)
  rw [hB2]
  have ga := fun W => exall_any (.slice A l.length cp) l 2 S W
  have ga := fun W => fun h => ga W h
  obtain ⟨K, hK⟩ : ∃ K, kAll l 2 = K := ⟨_, rfl⟩
  have ga : Calls Try.prog 48 #[.slice A l.length cp, .int .i64 2] w (fun e w' => e = .returned (.bool K) ∧ w = w') := by rw [← hK]; exact ga w hv
  rw [hK]
  clear hK
  clear hB1 hB2 hv
  go_enter Try.func34, Try.ntmps34
  go_wp2_with (first | (go_at_call 47; refine (told_any _ _ _ _).mono ?_; rintro e w' ⟨rfl, rfl⟩) | (go_at_call 48; refine ga.mono ?_; rintro e w' ⟨rfl, rfl⟩))
  go_ret2
  exact ⟨rfl, rfl⟩
set_option maxHeartbeats 2000000 in
theorem operator_mul (v : Value) (l : List Int) (S : Nat → Prop) (w : World) (hv : InR w S v l) : Calls Try.prog 34 #[.string (str [42]), v] w (NumP (toldF (decide (l.length = 2)) (kAll l 2) 2) w) := by
  obtain ⟨A, cp, rfl, hc, hm⟩ := hv.form
  unfold maxLen at hm
  obtain ⟨B1, hB1⟩ : ∃ B1, decide (l.length = 1) = B1 := ⟨_, rfl⟩
  obtain ⟨B2, hB2⟩ : ∃ B2, decide (l.length = 2) = B2 := ⟨_, rfl⟩
  have b1 : ((l.length : Int) == 1) = B1 := by rw [← hB1]; exact decide_eq_decide.2 (by omega)
  have b2 : ((l.length : Int) == 2) = B2 := by rw [← hB2]; exact decide_eq_decide.2 (by omega)
  rw [hB2]
  have ga := fun W => exall_any (.slice A l.length cp) l 2 S W
  have ga := fun W => fun h => ga W h
  obtain ⟨K, hK⟩ : ∃ K, kAll l 2 = K := ⟨_, rfl⟩
  have ga : Calls Try.prog 48 #[.slice A l.length cp, .int .i64 2] w (fun e w' => e = .returned (.bool K) ∧ w = w') := by rw [← hK]; exact ga w hv
  rw [hK]
  clear hK
  clear hB1 hB2 hv
  go_enter Try.func34, Try.ntmps34
  go_wp2_with (first | (go_at_call 47; refine (told_any _ _ _ _).mono ?_; rintro e w' ⟨rfl, rfl⟩) | (go_at_call 48; refine ga.mono ?_; rintro e w' ⟨rfl, rfl⟩))
  go_ret2
  exact ⟨rfl, rfl⟩
set_option maxHeartbeats 2000000 in
theorem operator_div (v : Value) (l : List Int) (S : Nat → Prop) (w : World) (hv : InR w S v l) : Calls Try.prog 34 #[.string (str [47]), v] w (NumP (toldF (decide (l.length = 2)) (kAll l 2) 2) w) := by
  obtain ⟨A, cp, rfl, hc, hm⟩ := hv.form
  unfold maxLen at hm
  obtain ⟨B1, hB1⟩ : ∃ B1, decide (l.length = 1) = B1 := ⟨_, rfl⟩
  obtain ⟨B2, hB2⟩ : ∃ B2, decide (l.length = 2) = B2 := ⟨_, rfl⟩
  have b1 : ((l.length : Int) == 1) = B1 := by rw [← hB1]; exact decide_eq_decide.2 (by omega)
  have b2 : ((l.length : Int) == 2) = B2 := by rw [← hB2]; exact decide_eq_decide.2 (by omega)
  rw [hB2]
  have ga := fun W => exall_any (.slice A l.length cp) l 2 S W
  have ga := fun W => fun h => ga W h
  obtain ⟨K, hK⟩ : ∃ K, kAll l 2 = K := ⟨_, rfl⟩
  have ga : Calls Try.prog 48 #[.slice A l.length cp, .int .i64 2] w (fun e w' => e = .returned (.bool K) ∧ w = w') := by rw [← hK]; exact ga w hv
  rw [hK]
  clear hK
  clear hB1 hB2 hv
  go_enter Try.func34, Try.ntmps34
  go_wp2_with (first | (go_at_call 47; refine (told_any _ _ _ _).mono ?_; rintro e w' ⟨rfl, rfl⟩) | (go_at_call 48; refine ga.mono ?_; rintro e w' ⟨rfl, rfl⟩))
  go_ret2
  exact ⟨rfl, rfl⟩
set_option maxHeartbeats 2000000 in
theorem operator_mod (v : Value) (l : List Int) (S : Nat → Prop) (w : World) (hv : InR w S v l) : Calls Try.prog 34 #[.string (str [37]), v] w (NumP (toldF (decide (l.length = 2)) (kAll l 2) 2) w) := by
  obtain ⟨A, cp, rfl, hc, hm⟩ := hv.form
  unfold maxLen at hm
  obtain ⟨B1, hB1⟩ : ∃ B1, decide (l.length = 1) = B1 := ⟨_, rfl⟩
  obtain ⟨B2, hB2⟩ : ∃ B2, decide (l.length = 2) = B2 := ⟨_, rfl⟩
  have b1 : ((l.length : Int) == 1) = B1 := by rw [← hB1]; exact decide_eq_decide.2 (by omega)
  have b2 : ((l.length : Int) == 2) = B2 := by rw [← hB2]; exact decide_eq_decide.2 (by omega)
  rw [hB2]
  have ga := fun W => exall_any (.slice A l.length cp) l 2 S W
  have ga := fun W => fun h => ga W h
  obtain ⟨K, hK⟩ : ∃ K, kAll l 2 = K := ⟨_, rfl⟩
  have ga : Calls Try.prog 48 #[.slice A l.length cp, .int .i64 2] w (fun e w' => e = .returned (.bool K) ∧ w = w') := by rw [← hK]; exact ga w hv
  rw [hK]
  clear hK
  clear hB1 hB2 hv
  go_enter Try.func34, Try.ntmps34
  go_wp2_with (first | (go_at_call 47; refine (told_any _ _ _ _).mono ?_; rintro e w' ⟨rfl, rfl⟩) | (go_at_call 48; refine ga.mono ?_; rintro e w' ⟨rfl, rfl⟩))
  go_ret2
  exact ⟨rfl, rfl⟩
set_option maxHeartbeats 2000000 in
theorem operator_none (v : Value) (l : List Int) (s : List UInt8) (hn : NoOp s) (S : Nat → Prop) (w : World) (hv : InR w S v l) : Calls Try.prog 34 #[.string (str s), v] w (NumP (0, 9) w) := by
  have b0 : (s == [73, 83, 78, 85, 76, 76]) = false := by simpa using hn.n0
  have p0 := hn.n0
  have b1 : (s == [78, 79, 84, 78, 85, 76, 76]) = false := by simpa using hn.n1
  have p1 := hn.n1
  have b2 : (s == [78, 79, 84]) = false := by simpa using hn.n2
  have p2 := hn.n2
  have b3 : (s == [78, 69, 71]) = false := by simpa using hn.n3
  have p3 := hn.n3
  have b4 : (s == [79, 82]) = false := by simpa using hn.n4
  have p4 := hn.n4
  have b5 : (s == [65, 78, 68]) = false := by simpa using hn.n5
  have p5 := hn.n5
  have b6 : (s == [43]) = false := by simpa using hn.n6
  have p6 := hn.n6
  have b7 : (s == [45]) = false := by simpa using hn.n7
  have p7 := hn.n7
  have b8 : (s == [42]) = false := by simpa using hn.n8
  have p8 := hn.n8
  have b9 : (s == [47]) = false := by simpa using hn.n9
  have p9 := hn.n9
  have b10 : (s == [37]) = false := by simpa using hn.n10
  have p10 := hn.n10
  have b11 : (s == [61]) = false := by simpa using hn.n11
  have p11 := hn.n11
  have b12 : (s == [60, 62]) = false := by simpa using hn.n12
  have p12 := hn.n12
  have b13 : (s == [60]) = false := by simpa using hn.n13
  have p13 := hn.n13
  have b14 : (s == [60, 61]) = false := by simpa using hn.n14
  have p14 := hn.n14
  have b15 : (s == [62]) = false := by simpa using hn.n15
  have p15 := hn.n15
  have b16 : (s == [62, 61]) = false := by simpa using hn.n16
  have p16 := hn.n16
  clear hn
  obtain ⟨A, cp, rfl, hc, hm⟩ := hv.form
  unfold maxLen at hm
  obtain ⟨B1, hB1⟩ : ∃ B1, decide (l.length = 1) = B1 := ⟨_, rfl⟩
  obtain ⟨B2, hB2⟩ : ∃ B2, decide (l.length = 2) = B2 := ⟨_, rfl⟩
  have b1 : ((l.length : Int) == 1) = B1 := by rw [← hB1]; exact decide_eq_decide.2 (by omega)
  have b2 : ((l.length : Int) == 2) = B2 := by rw [← hB2]; exact decide_eq_decide.2 (by omega)
  clear hB1 hB2 hv
  go_enter Try.func34, Try.ntmps34
  go_wp2
  go_ret2
  exact ⟨rfl, rfl⟩
set_option maxHeartbeats 2000000 in
theorem operator_eq (v : Value) (l : List Int) (S : Nat → Prop) (w : World) (hv : InR w S v l) : Calls Try.prog 34 #[.string (str [61]), v] w (NumS (toldF (decide (l.length = 2)) (pairB l) 1) w) := by
  obtain ⟨A, cp, rfl, hc, hm⟩ := hv.form
  unfold maxLen at hm
  obtain ⟨B1, hB1⟩ : ∃ B1, decide (l.length = 1) = B1 := ⟨_, rfl⟩
  obtain ⟨B2, hB2⟩ : ∃ B2, decide (l.length = 2) = B2 := ⟨_, rfl⟩
  have b1 : ((l.length : Int) == 1) = B1 := by rw [← hB1]; exact decide_eq_decide.2 (by omega)
  have b2 : ((l.length : Int) == 2) = B2 := by rw [← hB2]; exact decide_eq_decide.2 (by omega)
  cases B2
  · have K : toldF (decide (l.length = 2)) (pairB l) 1 = toldF false false 1 := by rw [hB2]; rfl
    rw [K]
    clear K hB1 hB2 hv
    go_enter Try.func34, Try.ntmps34
    go_wp2
    go_quiet ((go_at_call 47; refine Calls.quiet_of_same ((told_any _ _ _ _).mono fun _ _ h => ⟨h.1, h.2.symm⟩)))
    rename_i nq
    go_wp2
    go_ret2
    exact ⟨rfl, (Same.refl _ _).drewN nq⟩
  · obtain ⟨a, b, rfl⟩ : ∃ a b, l = [a, b] := by
      have h2 : l.length = 2 := by simpa using hB2
      match l, h2 with
      | [a, b], _ => exact ⟨a, b, rfl⟩
    obtain ⟨ad, rfl, d0, d1⟩ := hv.two
    have K : toldF (decide ([a, b].length = 2)) (pairB [a, b]) 1 = toldF true (decide (a = b) || (decide (a = 0) || decide (b = 0))) 1 := rfl
    rw [K]
    have q1 : (a == b) = decide (a = b) := rfl
    have q2 : (a == 0) = decide (a = 0) := rfl
    have q3 : (b == 0) = decide (b = 0) := rfl
    clear K hB1 hB2 hv b1 b2
    generalize decide (a = b) = e1 at *
    generalize decide (a = 0) = e2 at *
    generalize decide (b = 0) = e3 at *
    have hc : 2 ≤ cp := hc
    cases e1 <;> cases e2 <;> cases e3
    all_goals
      simp only [Bool.or_true, Bool.or_false, Bool.true_or, Bool.false_or, Bool.or_self]
      go_enter Try.func34, Try.ntmps34
      go_wp2
      go_quiet ((go_at_call 47; refine Calls.quiet_of_same ((told_any _ _ _ _).mono fun _ _ h => ⟨h.1, h.2.symm⟩)))
      rename_i nq
      go_wp2
      go_ret2
      exact ⟨rfl, (Same.refl _ _).drewN nq⟩
set_option maxHeartbeats 2000000 in
theorem operator_ne (v : Value) (l : List Int) (S : Nat → Prop) (w : World) (hv : InR w S v l) : Calls Try.prog 34 #[.string (str [60, 62]), v] w (NumS (toldF (decide (l.length = 2)) (pairB l) 1) w) := by
  obtain ⟨A, cp, rfl, hc, hm⟩ := hv.form
  unfold maxLen at hm
  obtain ⟨B1, hB1⟩ : ∃ B1, decide (l.length = 1) = B1 := ⟨_, rfl⟩
  obtain ⟨B2, hB2⟩ : ∃ B2, decide (l.length = 2) = B2 := ⟨_, rfl⟩
  have b1 : ((l.length : Int) == 1) = B1 := by rw [← hB1]; exact decide_eq_decide.2 (by omega)
  have b2 : ((l.length : Int) == 2) = B2 := by rw [← hB2]; exact decide_eq_decide.2 (by omega)
  cases B2
  · have K : toldF (decide (l.length = 2)) (pairB l) 1 = toldF false false 1 := by rw [hB2]; rfl
    rw [K]
    clear K hB1 hB2 hv
    go_enter Try.func34, Try.ntmps34
    go_wp2
    go_quiet ((go_at_call 47; refine Calls.quiet_of_same ((told_any _ _ _ _).mono fun _ _ h => ⟨h.1, h.2.symm⟩)))
    rename_i nq
    go_wp2
    go_ret2
    exact ⟨rfl, (Same.refl _ _).drewN nq⟩
  · obtain ⟨a, b, rfl⟩ : ∃ a b, l = [a, b] := by
      have h2 : l.length = 2 := by simpa using hB2
      match l, h2 with
      | [a, b], _ => exact ⟨a, b, rfl⟩
    obtain ⟨ad, rfl, d0, d1⟩ := hv.two
    have K : toldF (decide ([a, b].length = 2)) (pairB [a, b]) 1 = toldF true (decide (a = b) || (decide (a = 0) || decide (b = 0))) 1 := rfl
    rw [K]
    have q1 : (a == b) = decide (a = b) := rfl
    have q2 : (a == 0) = decide (a = 0) := rfl
    have q3 : (b == 0) = decide (b = 0) := rfl
    clear K hB1 hB2 hv b1 b2
    generalize decide (a = b) = e1 at *
    generalize decide (a = 0) = e2 at *
    generalize decide (b = 0) = e3 at *
    have hc : 2 ≤ cp := hc
    cases e1 <;> cases e2 <;> cases e3
    all_goals
      simp only [Bool.or_true, Bool.or_false, Bool.true_or, Bool.false_or, Bool.or_self]
      go_enter Try.func34, Try.ntmps34
      go_wp2
      go_quiet ((go_at_call 47; refine Calls.quiet_of_same ((told_any _ _ _ _).mono fun _ _ h => ⟨h.1, h.2.symm⟩)))
      rename_i nq
      go_wp2
      go_ret2
      exact ⟨rfl, (Same.refl _ _).drewN nq⟩
set_option maxHeartbeats 2000000 in
theorem operator_lt (v : Value) (l : List Int) (S : Nat → Prop) (w : World) (hv : InR w S v l) : Calls Try.prog 34 #[.string (str [60]), v] w (NumS (toldF (decide (l.length = 2)) (pairB l) 1) w) := by
  obtain ⟨A, cp, rfl, hc, hm⟩ := hv.form
  unfold maxLen at hm
  obtain ⟨B1, hB1⟩ : ∃ B1, decide (l.length = 1) = B1 := ⟨_, rfl⟩
  obtain ⟨B2, hB2⟩ : ∃ B2, decide (l.length = 2) = B2 := ⟨_, rfl⟩
  have b1 : ((l.length : Int) == 1) = B1 := by rw [← hB1]; exact decide_eq_decide.2 (by omega)
  have b2 : ((l.length : Int) == 2) = B2 := by rw [← hB2]; exact decide_eq_decide.2 (by omega)
  cases B2
  · have K : toldF (decide (l.length = 2)) (pairB l) 1 = toldF false false 1 := by rw [hB2]; rfl
    rw [K]
    clear K hB1 hB2 hv
    go_enter Try.func34, Try.ntmps34
    go_wp2
    go_quiet ((go_at_call 47; refine Calls.quiet_of_same ((told_any _ _ _ _).mono fun _ _ h => ⟨h.1, h.2.symm⟩)))
    rename_i nq
    go_wp2
    go_ret2
    exact ⟨rfl, (Same.refl _ _).drewN nq⟩
  · obtain ⟨a, b, rfl⟩ : ∃ a b, l = [a, b] := by
      have h2 : l.length = 2 := by simpa using hB2
      match l, h2 with
      | [a, b], _ => exact ⟨a, b, rfl⟩
    obtain ⟨ad, rfl, d0, d1⟩ := hv.two
    have K : toldF (decide ([a, b].length = 2)) (pairB [a, b]) 1 = toldF true (decide (a = b) || (decide (a = 0) || decide (b = 0))) 1 := rfl
    rw [K]
    have q1 : (a == b) = decide (a = b) := rfl
    have q2 : (a == 0) = decide (a = 0) := rfl
    have q3 : (b == 0) = decide (b = 0) := rfl
    clear K hB1 hB2 hv b1 b2
    generalize decide (a = b) = e1 at *
    generalize decide (a = 0) = e2 at *
    generalize decide (b = 0) = e3 at *
    have hc : 2 ≤ cp := hc
    cases e1 <;> cases e2 <;> cases e3
    all_goals
      simp only [Bool.or_true, Bool.or_false, Bool.true_or, Bool.false_or, Bool.or_self]
      go_enter Try.func34, Try.ntmps34
      go_wp2
      go_quiet ((go_at_call 47; refine Calls.quiet_of_same ((told_any _ _ _ _).mono fun _ _ h => ⟨h.1, h.2.symm⟩)))
      rename_i nq
      go_wp2
      go_ret2
      exact ⟨rfl, (Same.refl _ _).drewN nq⟩
set_option maxHeartbeats 2000000 in
theorem operator_le (v : Value) (l : List Int) (S : Nat → Prop) (w : World) (hv : InR w S v l) : Calls Try.prog 34 #[.string (str [60, 61]), v] w (NumS (toldF (decide (l.length = 2)) (pairB l) 1) w) := by
  obtain ⟨A, cp, rfl, hc, hm⟩ := hv.form
  unfold maxLen at hm
  obtain ⟨B1, hB1⟩ : ∃ B1, decide (l.length = 1) = B1 := ⟨_, rfl⟩
  obtain ⟨B2, hB2⟩ : ∃ B2, decide (l.length = 2) = B2 := ⟨_, rfl⟩
  have b1 : ((l.length : Int) == 1) = B1 := by rw [← hB1]; exact decide_eq_decide.2 (by omega)
  have b2 : ((l.length : Int) == 2) = B2 := by rw [← hB2]; exact decide_eq_decide.2 (by omega)
  cases B2
  · have K : toldF (decide (l.length = 2)) (pairB l) 1 = toldF false false 1 := by rw [hB2]; rfl
    rw [K]
    clear K hB1 hB2 hv
    go_enter Try.func34, Try.ntmps34
    go_wp2
    go_quiet ((go_at_call 47; refine Calls.quiet_of_same ((told_any _ _ _ _).mono fun _ _ h => ⟨h.1, h.2.symm⟩)))
    rename_i nq
    go_wp2
    go_ret2
    exact ⟨rfl, (Same.refl _ _).drewN nq⟩
  · obtain ⟨a, b, rfl⟩ : ∃ a b, l = [a, b] := by
      have h2 : l.length = 2 := by simpa using hB2
      match l, h2 with
      | [a, b], _ => exact ⟨a, b, rfl⟩
    obtain ⟨ad, rfl, d0, d1⟩ := hv.two
    have K : toldF (decide ([a, b].length = 2)) (pairB [a, b]) 1 = toldF true (decide (a = b) || (decide (a = 0) || decide (b = 0))) 1 := rfl
    rw [K]
    have q1 : (a == b) = decide (a = b) := rfl
    have q2 : (a == 0) = decide (a = 0) := rfl
    have q3 : (b == 0) = decide (b = 0) := rfl
    clear K hB1 hB2 hv b1 b2
    generalize decide (a = b) = e1 at *
    generalize decide (a = 0) = e2 at *
    generalize decide (b = 0) = e3 at *
    have hc : 2 ≤ cp := hc
    cases e1 <;> cases e2 <;> cases e3
    all_goals
      simp only [Bool.or_true, Bool.or_false, Bool.true_or, Bool.false_or, Bool.or_self]
      go_enter Try.func34, Try.ntmps34
      go_wp2
      go_quiet ((go_at_call 47; refine Calls.quiet_of_same ((told_any _ _ _ _).mono fun _ _ h => ⟨h.1, h.2.symm⟩)))
      rename_i nq
      go_wp2
      go_ret2
      exact ⟨rfl, (Same.refl _ _).drewN nq⟩
set_option maxHeartbeats 2000000 in
theorem operator_gt (v : Value) (l : List Int) (S : Nat → Prop) (w : World) (hv : InR w S v l) : Calls Try.prog 34 #[.string (str [62]), v] w (NumS (toldF (decide (l.length = 2)) (pairB l) 1) w) := by
  obtain ⟨A, cp, rfl, hc, hm⟩ := hv.form
  unfold maxLen at hm
  obtain ⟨B1, hB1⟩ : ∃ B1, decide (l.length = 1) = B1 := ⟨_, rfl⟩
  obtain ⟨B2, hB2⟩ : ∃ B2, decide (l.length = 2) = B2 := ⟨_, rfl⟩
  have b1 : ((l.length : Int) == 1) = B1 := by rw [← hB1]; exact decide_eq_decide.2 (by omega)
  have b2 : ((l.length : Int) == 2) = B2 := by rw [← hB2]; exact decide_eq_decide.2 (by omega)
  cases B2
  · have K : toldF (decide (l.length = 2)) (pairB l) 1 = toldF false false 1 := by rw [hB2]; rfl
    rw [K]
    clear K hB1 hB2 hv
    go_enter Try.func34, Try.ntmps34
    go_wp2
    go_quiet ((go_at_call 47; refine Calls.quiet_of_same ((told_any _ _ _ _).mono fun _ _ h => ⟨h.1, h.2.symm⟩)))
    rename_i nq
    go_wp2
    go_ret2
    exact ⟨rfl, (Same.refl _ _).drewN nq⟩
  · obtain ⟨a, b, rfl⟩ : ∃ a b, l = [a, b] := by
      have h2 : l.length = 2 := by simpa using hB2
      match l, h2 with
      | [a, b], _ => exact ⟨a, b, rfl⟩
    obtain ⟨ad, rfl, d0, d1⟩ := hv.two
    have K : toldF (decide ([a, b].length = 2)) (pairB [a, b]) 1 = toldF true (decide (a = b) || (decide (a = 0) || decide (b = 0))) 1 := rfl
    rw [K]
    have q1 : (a == b) = decide (a = b) := rfl
    have q2 : (a == 0) = decide (a = 0) := rfl
    have q3 : (b == 0) = decide (b = 0) := rfl
    clear K hB1 hB2 hv b1 b2
    generalize decide (a = b) = e1 at *
    generalize decide (a = 0) = e2 at *
    generalize decide (b = 0) = e3 at *
    have hc : 2 ≤ cp := hc
    cases e1 <;> cases e2 <;> cases e3
    all_goals
      simp only [Bool.or_true, Bool.or_false, Bool.true_or, Bool.false_or, Bool.or_self]
      go_enter Try.func34, Try.ntmps34
      go_wp2
      go_quiet ((go_at_call 47; refine Calls.quiet_of_same ((told_any _ _ _ _).mono fun _ _ h => ⟨h.1, h.2.symm⟩)))
      rename_i nq
      go_wp2
      go_ret2
      exact ⟨rfl, (Same.refl _ _).drewN nq⟩
set_option maxHeartbeats 2000000 in
theorem operator_ge (v : Value) (l : List Int) (S : Nat → Prop) (w : World) (hv : InR w S v l) : Calls Try.prog 34 #[.string (str [62, 61]), v] w (NumS (toldF (decide (l.length = 2)) (pairB l) 1) w) := by
  obtain ⟨A, cp, rfl, hc, hm⟩ := hv.form
  unfold maxLen at hm
  obtain ⟨B1, hB1⟩ : ∃ B1, decide (l.length = 1) = B1 := ⟨_, rfl⟩
  obtain ⟨B2, hB2⟩ : ∃ B2, decide (l.length = 2) = B2 := ⟨_, rfl⟩
  have b1 : ((l.length : Int) == 1) = B1 := by rw [← hB1]; exact decide_eq_decide.2 (by omega)
  have b2 : ((l.length : Int) == 2) = B2 := by rw [← hB2]; exact decide_eq_decide.2 (by omega)
  cases B2
  · have K : toldF (decide (l.length = 2)) (pairB l) 1 = toldF false false 1 := by rw [hB2]; rfl
    rw [K]
    clear K hB1 hB2 hv
    go_enter Try.func34, Try.ntmps34
    go_wp2
    go_quiet ((go_at_call 47; refine Calls.quiet_of_same ((told_any _ _ _ _).mono fun _ _ h => ⟨h.1, h.2.symm⟩)))
    rename_i nq
    go_wp2
    go_ret2
    exact ⟨rfl, (Same.refl _ _).drewN nq⟩
  · obtain ⟨a, b, rfl⟩ : ∃ a b, l = [a, b] := by
      have h2 : l.length = 2 := by simpa using hB2
      match l, h2 with
      | [a, b], _ => exact ⟨a, b, rfl⟩
    obtain ⟨ad, rfl, d0, d1⟩ := hv.two
    have K : toldF (decide ([a, b].length = 2)) (pairB [a, b]) 1 = toldF true (decide (a = b) || (decide (a = 0) || decide (b = 0))) 1 := rfl
    rw [K]
    have q1 : (a == b) = decide (a = b) := rfl
    have q2 : (a == 0) = decide (a = 0) := rfl
    have q3 : (b == 0) = decide (b = 0) := rfl
    clear K hB1 hB2 hv b1 b2
    generalize decide (a = b) = e1 at *
    generalize decide (a = 0) = e2 at *
    generalize decide (b = 0) = e3 at *
    have hc : 2 ≤ cp := hc
    cases e1 <;> cases e2 <;> cases e3
    all_goals
      simp only [Bool.or_true, Bool.or_false, Bool.true_or, Bool.false_or, Bool.or_self]
      go_enter Try.func34, Try.ntmps34
      go_wp2
      go_quiet ((go_at_call 47; refine Calls.quiet_of_same ((told_any _ _ _ _).mono fun _ _ h => ⟨h.1, h.2.symm⟩)))
      rename_i nq
      go_wp2
      go_ret2
      exact ⟨rfl, (Same.refl _ _).drewN nq⟩
theorem exoperator_any (v : Value) (s : List UInt8) (l : List Int) (S : Nat → Prop) (w : World) (hv : InR w S v l) :
    Calls Try.prog 34 #[.string (str s), v] w (NumS (operF (opk s) l) w) := by
  rcases op_cases s with rfl | rfl | rfl | rfl | rfl | rfl | rfl | rfl | rfl | rfl | rfl | rfl | rfl | rfl | rfl | rfl | rfl | hn
  rotate_right 1
  · rw [opk_none hn]; exact (operator_none v l s hn S w hv).mono fun _ _ h => h.toS
  · exact (operator_isnull v l S w hv).mono fun _ _ h => h.toS
  · exact (operator_notnull v l S w hv).mono fun _ _ h => h.toS
  · exact (operator_not v l S w hv).mono fun _ _ h => h.toS
  · exact (operator_neg v l S w hv).mono fun _ _ h => h.toS
  · exact (operator_or v l S w hv).mono fun _ _ h => h.toS
  · exact (operator_and v l S w hv).mono fun _ _ h => h.toS
  · exact (operator_add v l S w hv).mono fun _ _ h => h.toS
  · exact (operator_sub v l S w hv).mono fun _ _ h => h.toS
  · exact (operator_mul v l S w hv).mono fun _ _ h => h.toS
  · exact (operator_div v l S w hv).mono fun _ _ h => h.toS
  · exact (operator_mod v l S w hv).mono fun _ _ h => h.toS
  · exact operator_eq v l S w hv
  · exact operator_ne v l S w hv
  · exact operator_lt v l S w hv
  · exact operator_le v l S w hv
  · exact operator_gt v l S w hv
  · exact operator_ge v l S w hv
end Go.Proofs.Ytakbikibahhepaa
