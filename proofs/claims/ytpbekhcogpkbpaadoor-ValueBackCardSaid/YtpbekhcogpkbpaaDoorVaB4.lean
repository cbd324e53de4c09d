/-
  The walks of bits' signs (Order, Back, Zig, Zag) and texts, the program's and the document's.
-/
import Derived.Test.YtpbekhcogpkbpaaDoorVaB3
set_option linter.unusedSimpArgs false
set_option linter.unusedVariables false
namespace Go.Proofs.YtpbekhcogpkbpaaDoor
open Go.RowKit

theorem xor_i64_zero (a : Nat) (ha : a < 9223372036854775808) : bits .xor .i64 (a : Int) 0 = (a : Int) := by
  have h1 : (BitVec.ofInt 64 (a : Int)).toNat = a := by rw [BitVec.ofInt_natCast, BitVec.toNat_ofNat]; exact Nat.mod_eq_of_lt (by omega)
  show IntKind.i64.wrap ((BitVec.ofInt 64 (a : Int) ^^^ BitVec.ofInt 64 0).toNat : Int) = _
  rw [BitVec.toNat_xor, h1, show (BitVec.ofInt 64 0).toNat = 0 from rfl, Nat.xor_zero]
  simp [IntKind.wrap, IntKind.bits, IntKind.signed]
  omega
theorem xor_i64_neg (a : Nat) (ha : a < 9223372036854775808) : bits .xor .i64 (a : Int) (-1) = -(a : Int) - 1 := by
  have h1 : (BitVec.ofInt 64 (a : Int)).toNat = a := by rw [BitVec.ofInt_natCast, BitVec.toNat_ofNat]; exact Nat.mod_eq_of_lt (by omega)
  show IntKind.i64.wrap ((BitVec.ofInt 64 (a : Int) ^^^ BitVec.ofInt 64 (-1)).toNat : Int) = _
  rw [BitVec.toNat_xor, h1, show (BitVec.ofInt 64 (-1)).toNat = 18446744073709551615 from rfl, xor_ones (by omega)]
  simp [IntKind.wrap, IntKind.bits, IntKind.signed]
  omega
theorem xor_ord {n : Int} (h : I64 n) : bits .xor .u64 (IntKind.u64.wrap n) 9223372036854775808 = (ordN n : Int) := by
  obtain ⟨h1, h2⟩ := h
  obtain ⟨m, hm⟩ : ∃ m : Nat, IntKind.u64.wrap n = (m : Int) := ⟨(n % 18446744073709551616).toNat, by rw [IntKind.wrap_u64]; omega⟩
  have hm2 := hm
  rw [IntKind.wrap_u64] at hm2
  rw [hm, show (9223372036854775808 : Int) = ((9223372036854775808 : Nat) : Int) from rfl, bits_xor_u64_nat _ _ (by omega) (by omega)]
  unfold ordN
  by_cases h0 : m < 9223372036854775808
  · rw [xor_top h0]; omega
  · rw [xor_top' (by omega) (by omega)]; omega
theorem xor_back {u : Nat} (h : u < 18446744073709551616) : ∃ m : Nat, bits .xor .u64 (u : Int) 9223372036854775808 = (m : Int) ∧ m < 18446744073709551616 ∧ ((m : Int) = backN u ∨ (m : Int) = backN u + 18446744073709551616) := by
  rw [show (9223372036854775808 : Int) = ((9223372036854775808 : Nat) : Int) from rfl, bits_xor_u64_nat _ _ h (by omega)]
  unfold backN
  by_cases h0 : u < 9223372036854775808
  · rw [xor_top h0]; exact ⟨_, rfl, by omega, by omega⟩
  · rw [xor_top' (by omega) h]; exact ⟨_, rfl, by omega, by omega⟩
theorem xor_zig_pos {n : Int} (h0 : 0 ≤ n) (h2 : n ≤ 9223372036854775807) : bits .xor .u64 (n * 2) (n / 9223372036854775808) = (zigN n : Int) := by
  have e : n / 9223372036854775808 = ((0 : Nat) : Int) := by omega
  have e2 : n * 2 = ((zigN n : Nat) : Int) := by unfold zigN; rw [if_pos h0]; omega
  have hz : zigN n < 18446744073709551616 := by unfold zigN; rw [if_pos h0]; omega
  rw [e, e2, bits_xor_u64_nat _ _ hz (by omega), Nat.xor_zero]
theorem xor_zig_neg {n : Int} (h0 : ¬ 0 ≤ n) (h1 : -9223372036854775808 ≤ n) : bits .xor .u64 (IntKind.u64.wrap (IntKind.u64.wrap n * 2)) (IntKind.u64.wrap (n / 9223372036854775808)) = (zigN n : Int) := by
  have e : IntKind.u64.wrap (n / 9223372036854775808) = ((18446744073709551615 : Nat) : Int) := by rw [IntKind.wrap_u64]; omega
  obtain ⟨m, hm⟩ : ∃ m : Nat, IntKind.u64.wrap (IntKind.u64.wrap n * 2) = (m : Int) := ⟨((n % 18446744073709551616) * 2 % 18446744073709551616).toNat, by rw [IntKind.wrap_u64, IntKind.wrap_u64]; omega⟩
  have hm2 := hm
  rw [IntKind.wrap_u64, IntKind.wrap_u64] at hm2
  rw [e, hm, bits_xor_u64_nat _ _ (by omega) (by omega), xor_ones (by omega)]
  unfold zigN
  rw [if_neg h0]
  omega
theorem ret_eq {a b : Int} {k : IntKind} {w : World} (h : a = b) : Ending.returned (.int k a) = Ending.returned (.int k b) ∧ w = w := by subst h; exact ⟨rfl, rfl⟩
theorem order_any (n : Int) (h : I64 n) (w : World) : Calls Tryd.prog 28 #[.int .i64 n] w fun e w' => e = .returned (.int .u64 (ordN n)) ∧ w = w' := by
  have hx := xor_ord h
  obtain ⟨h1, h2⟩ := h
  by_cases h0 : 0 ≤ n
  · have e : IntKind.u64.wrap n = n := by rw [IntKind.wrap_u64]; omega
    rw [e] at hx
    clear e
    go_enter Tryd.func28, Tryd.ntmps28
    go_wp2
    go_ret
    exact ⟨rfl, rfl⟩
  · go_enter Tryd.func28, Tryd.ntmps28
    go_wp2
    go_ret
    exact ⟨rfl, rfl⟩
theorem back_any (u : Nat) (h : u < 18446744073709551616) (w : World) : Calls Tryd.prog 47 #[.int .u64 u] w fun e w' => e = .returned (.int .i64 (backN u)) ∧ w = w' := by
  obtain ⟨m, hm, hm2, hm3⟩ := xor_back h
  have hw : wrap64 (bits .xor .u64 (u : Int) 9223372036854775808) = backN u := by
    rw [hm]
    have : -9223372036854775808 ≤ backN u ∧ backN u ≤ 9223372036854775807 := by unfold backN; omega
    unfold wrap64
    omega
  clear hm hm2 hm3
  go_enter Tryd.func47, Tryd.ntmps47
  go_wp2
  go_ret
  exact ret_eq hw
theorem zig_any (n : Int) (h : I64 n) (w : World) : Calls Tryd.prog 30 #[.int .i64 n] w fun e w' => e = .returned (.int .u64 (zigN n)) ∧ w = w' := by
  obtain ⟨h1, h2⟩ := h
  by_cases h0 : 0 ≤ n
  · have hx := xor_zig_pos h0 h2
    go_enter Tryd.func30, Tryd.ntmps30
    go_wp2
    go_ret
    exact ⟨rfl, rfl⟩
  · have hx := xor_zig_neg h0 h1
    go_enter Tryd.func30, Tryd.ntmps30
    go_wp2
    go_ret
    exact ⟨rfl, rfl⟩
theorem zag_any (u : Nat) (h : u < 18446744073709551616) (w : World) : Calls Tryd.prog 53 #[.int .u64 u] w fun e w' => e = .returned (.int .i64 (zagN u)) ∧ w = w' := by
  have ha : bits .and .u64 (u : Int) 1 = ((u % 2 : Nat) : Int) := by
    rw [show (1 : Int) = ((1 : Nat) : Int) from rfl, bits_and_u64_nat _ _ h (by omega), and_one]
  have hd : (u : Int) / 2 = ((u / 2 : Nat) : Int) := by omega
  have hx : bits .xor .i64 ((u : Int) / 2) (wrap64 (-wrap64 (bits .and .u64 (u : Int) 1))) = zagN u := by
    rw [ha, hd]
    unfold zagN
    by_cases h0 : u % 2 = 0
    · rw [h0, if_pos rfl, show wrap64 (-wrap64 ((0 : Nat) : Int)) = 0 by unfold wrap64; omega, xor_i64_zero _ (by omega)]
    · rw [show u % 2 = 1 by omega, if_neg (by decide), show wrap64 (-wrap64 ((1 : Nat) : Int)) = -1 by unfold wrap64; omega, xor_i64_neg _ (by omega)]
  clear ha hd
  go_enter Tryd.func53, Tryd.ntmps53
  go_wp2
  go_ret
  exact ⟨rfl, rfl⟩
theorem reforder_any (n : Int) (h : I64 n) (w : World) : Calls Tryd.prog 33 #[.int .i64 n] w fun e w' => e = .returned (.int .u64 (ordN n)) ∧ w = w' := by
  obtain ⟨h1, h2⟩ := h
  by_cases h0 : 0 ≤ n
  · go_enter Tryd.func33, Tryd.ntmps33
    go_wp2
    go_ret
    exact ret_eq (by unfold ordN; omega)
  · go_enter Tryd.func33, Tryd.ntmps33
    go_wp2
    go_ret
    exact ret_eq (by unfold ordN; omega)
theorem refback_any (u : Nat) (h : u < 18446744073709551616) (w : World) : Calls Tryd.prog 50 #[.int .u64 u] w fun e w' => e = .returned (.int .i64 (backN u)) ∧ w = w' := by
  by_cases h0 : (9223372036854775808 : Int) ≤ (u : Int)
  · go_enter Tryd.func50, Tryd.ntmps50
    go_wp2
    go_ret
    exact ret_eq (by unfold backN; omega)
  · go_enter Tryd.func50, Tryd.ntmps50
    go_wp2
    go_ret
    exact ret_eq (by unfold backN; omega)
theorem refzig_any (n : Int) (h : I64 n) (w : World) : Calls Tryd.prog 35 #[.int .i64 n] w fun e w' => e = .returned (.int .u64 (zigN n)) ∧ w = w' := by
  obtain ⟨h1, h2⟩ := h
  by_cases h0 : 0 ≤ n
  · go_enter Tryd.func35, Tryd.ntmps35
    go_wp2
    go_ret
    exact ret_eq (by unfold zigN; split <;> omega)
  · go_enter Tryd.func35, Tryd.ntmps35
    go_wp2
    go_ret
    exact ret_eq (by unfold zigN; split <;> omega)
theorem refzag_any (u : Nat) (h : u < 18446744073709551616) (w : World) : Calls Tryd.prog 56 #[.int .u64 u] w fun e w' => e = .returned (.int .i64 (zagN u)) ∧ w = w' := by
  by_cases h0 : (u : Int) % 2 = 0
  · go_enter Tryd.func56, Tryd.ntmps56
    go_wp2
    go_ret
    exact ret_eq (by unfold zagN; split <;> omega)
  · go_enter Tryd.func56, Tryd.ntmps56
    go_wp2
    go_ret
    exact ret_eq (by unfold zagN; split <;> omega)
set_option maxRecDepth 100000 in
theorem text_any (v u : Value) (bs s : List UInt8) (S S' : Nat → Prop) (w : World) (hv : By w S v bs) (hu : By w S' u s) (hl : bs.length ≤ 8000000) (hs : s.length ≤ 100000) :
    Calls Tryd.prog 31 #[v, u] w (OwnPost (bs ++ textL s) w) := by
  have hvar := var_any v bs s.length S w hv (by omega) (by omega)
  have HU := Lib.hid hu
  have h10 := varL_10 (x := s.length) (by omega)
  obtain ⟨B, cb, rfl, hcb, hmb, -⟩ := id hu
  unfold maxLen at hmb
  clear hu hv
  go_enter Tryd.func31, Tryd.ntmps31
  go_wp2_with (first | (go_at_call 29; refine hvar.mono ?_; rintro e w1 ⟨x, rfl, hx, hs1⟩) | (at_builtin; refine stopAt ?_))
  unfold Hid
  refine wpList_appL rfl (.tmp 9) (.tmp 10) rfl rfl rfl hx (HU.out.keep (hs1.mono fun _ _ _ => trivial)) hs1.size (by rw [List.length_append]; omega) ?_
  intro v' w2 hown hs2
  go_wp2
  go_ret
  exact ⟨_, rfl, by unfold textL; rw [← List.append_assoc]; exact hown, hs1.trans' hs2 fun k hk _ => hk⟩
set_option maxRecDepth 100000 in
theorem reftext_any (v u : Value) (bs s : List UInt8) (S S' : Nat → Prop) (w : World) (hv : By w S v bs) (hu : By w S' u s) (hl : bs.length ≤ 8000000) (hs : s.length ≤ 100000) :
    Calls Tryd.prog 36 #[v, u] w (OwnPost (bs ++ textL s) w) := by
  have hvar := refvar_any v bs s.length S w hv (by omega) (by omega)
  have HU := Lib.hid hu
  have h10 := varL_10 (x := s.length) (by omega)
  obtain ⟨B, cb, rfl, hcb, hmb, -⟩ := id hu
  unfold maxLen at hmb
  clear hu hv
  go_enter Tryd.func36, Tryd.ntmps36
  go_wp2_with (first | (go_at_call 34; refine hvar.mono ?_; rintro e w1 ⟨x, rfl, hx, hs1⟩) | (at_builtin; refine stopAt ?_))
  unfold Hid
  refine wpList_appL rfl (.tmp 9) (.tmp 10) rfl rfl rfl hx (HU.out.keep (hs1.mono fun _ _ _ => trivial)) hs1.size (by rw [List.length_append]; omega) ?_
  intro v' w2 hown hs2
  go_wp2
  go_ret
  exact ⟨_, rfl, by unfold textL; rw [← List.append_assoc]; exact hown, hs1.trans' hs2 fun k hk _ => hk⟩
end Go.Proofs.YtpbekhcogpkbpaaDoor
