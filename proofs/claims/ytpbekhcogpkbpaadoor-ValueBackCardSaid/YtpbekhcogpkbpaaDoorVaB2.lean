/-
  The walks of bits' TakeVar, the program's and the document's.
-/
import Derived.Test.YtpbekhcogpkbpaaDoorVaB
set_option linter.unusedSimpArgs false
set_option linter.unusedVariables false
namespace Go.Proofs.YtpbekhcogpkbpaaDoor
open Go.RowKit

def VarP (b : List UInt8) (w : World) (e : Ending) (w' : World) : Prop := e = .returned (.tuple #[.int .u64 (takeVarF b 0 0).1, .int .i64 (takeVarF b 0 0).2.1, .int .i64 (takeVarF b 0 0).2.2]) ∧ w = w'
theorem By.cells {w : World} {S : Nat → Prop} {A : Option Addr} {n c : Nat} {bs : List UInt8} (h : By w S (.slice A n c) bs) : n = bs.length ∧ ∀ k (hk : k < bs.length), ∃ ad, A = some ad ∧ w.cell? (ad.add k) = some (V8 bs[k]) := by
  obtain ⟨A', c', e, hc, hm, hs⟩ := h
  injection e with e1 e2 e3
  subst e1 e2
  refine ⟨rfl, fun k hk => ?_⟩
  obtain ⟨ad, u, rfl, -, hu, hcell⟩ := hs.at_ hk
  refine ⟨ad, rfl, ?_⟩
  rw [hcell]
  simp [cs8, hk] at hu
  rw [← hu]
theorem or_var {acc j : Nat} {c : UInt8} (P : Nat) (hP : P = 2 ^ j) (hacc : acc < P) (hP2 : P ≤ 9223372036854775808) (hf : c.toNat % 128 * P < 18446744073709551616) :
    bits .or .u64 (acc : Int) (IntKind.u64.wrap (IntKind.u64.wrap (bits .andNot .u8 (n8 c) 128) * (P : Int))) = ((acc + c.toNat % 128 * P : Nat) : Int) := by
  have hc := c.toNat_lt
  have h1 : bits .andNot .u8 (n8 c) 128 = ((c.toNat % 128 : Nat) : Int) := by
    unfold n8
    rw [show (128 : Int) = ((128 : Nat) : Int) from rfl, u8_andNot_nat _ _ (by simpa using hc) (by omega)]
    rw [show 255 - 128 = 127 from rfl, and_low (by simpa using hc)]
  have h2 : IntKind.u64.wrap ((c.toNat % 128 : Nat) : Int) = ((c.toNat % 128 : Nat) : Int) := by rw [IntKind.wrap_u64]; omega
  have h3 : IntKind.u64.wrap (((c.toNat % 128 : Nat) : Int) * (P : Int)) = ((c.toNat % 128 * P : Nat) : Int) := by rw [IntKind.wrap_u64, ← Int.natCast_mul]; omega
  have h4 : acc < 2 ^ j := by omega
  rw [h1, h2, h3, bits_or_u64_nat _ _ (by omega) hf, hP, or_shift h4]
theorem pow7 (k : Nat) : (128 : Nat) ^ k = 2 ^ (7 * k) := by rw [Nat.pow_mul]
theorem or_var' {acc k : Nat} {c : UInt8} (hk : k ≤ 9) (hacc : acc < 128 ^ k) (hf : c.toNat % 128 * 128 ^ k < 18446744073709551616) :
    bits .or .u64 (acc : Int) (IntKind.u64.wrap (IntKind.u64.wrap (bits .andNot .u8 (n8 c) 128) * 2 ^ (7 * k))) = ((acc + c.toNat % 128 * 128 ^ k : Nat) : Int) := by
  have h := or_var (acc := acc) (j := 7 * k) (c := c) (128 ^ k) (pow7 k) hacc (Nat.le_trans (Nat.pow_le_pow_right (by decide) hk) (by decide)) hf
  rw [← h]
  congr 4
  rw [pow7]
  push_cast
  rfl
theorem take_cut (c : UInt8) (k : Nat) (hk : k < 9) : c.toNat % 128 * 128 ^ k < 18446744073709551616 := by
  have h1 : (128:Nat) ^ k ≤ 128 ^ 8 := Nat.pow_le_pow_right (by decide) (by omega)
  have h2 : c.toNat % 128 * 128 ^ k ≤ 127 * 128 ^ 8 := Nat.mul_le_mul (by omega) h1
  have : (127:Nat) * 128 ^ 8 < 18446744073709551616 := by decide
  omega
theorem take_next {c : UInt8} {k acc : Nat} (hacc : acc < 128 ^ k) : acc + c.toNat % 128 * 128 ^ k < 128 ^ (k + 1) := by
  have h1 : c.toNat % 128 * 128 ^ k ≤ 127 * 128 ^ k := Nat.mul_le_mul_right _ (by omega)
  rw [Nat.pow_succ, Nat.mul_comm (128 ^ k)]
  omega
/-- What one more byte tells. -/
inductive VarStep (c : UInt8) (r : List UInt8) (k acc : Nat) (R : Nat × Nat × Int) : Prop where
  | range (h : k = 9) (h1 : 1 < c.toNat) (e : R = (0, 0, 5))
  | more (h : 128 ≤ c.toNat) (hk : k < 9) (e : takeVarF r (k + 1) (acc + c.toNat % 128 * 128 ^ k) = R)
  | form (h : c.toNat = 0) (hk : 0 < k) (e : R = (0, 0, 9))
  | done (h : c.toNat < 128) (h1 : k = 9 → c.toNat ≤ 1) (hz : c.toNat = 0 → k = 0) (e : R = (acc + c.toNat % 128 * 128 ^ k, k + 1, 0))
theorem varStep {c : UInt8} {r : List UInt8} {k acc : Nat} {R : Nat × Nat × Int} (hk : k ≤ 9) (h : takeVarF (c :: r) k acc = R) : VarStep c r k acc R := by
  rw [takeVarF] at h
  by_cases h1 : k = 9 ∧ 1 < c.toNat
  · rw [if_pos h1] at h; exact .range h1.1 h1.2 h.symm
  rw [if_neg h1] at h
  by_cases h2 : 128 ≤ c.toNat
  · rw [if_pos h2] at h
    have hc := c.toNat_lt
    refine .more h2 (by omega) ?_
    rw [← h, show c.toNat % 128 = c.toNat - 128 by omega]
  rw [if_neg h2] at h
  by_cases h3 : c = 0 ∧ 0 < k
  · rw [if_pos h3] at h; exact .form (by rw [h3.1]; rfl) h3.2 h.symm
  rw [if_neg h3] at h
  refine .done (by omega) (fun e => by omega) (fun e => ?_) ?_
  · have : c = 0 := UInt8.toNat_inj.1 e
    have := not_and.1 h3 this
    omega
  · rw [← h, show c.toNat % 128 = c.toNat by omega]
set_option maxRecDepth 100000 in
set_option maxHeartbeats 2000000 in
theorem takevar_any (v : Value) (bs : List UInt8) (S : Nat → Prop) (w : World) (hv : By w S v bs) (hl : bs.length ≤ 100000) :
    Calls Tryd.prog 52 #[v] w (VarP bs w) := by
  unfold VarP
  obtain ⟨A, cap, rfl, hc1, hm, hs⟩ := id hv
  have HC := Lib.hid (By.cells hv).2
  unfold maxLen at hm
  obtain ⟨R, hR⟩ : ∃ R, R = takeVarF bs 0 0 := ⟨_, rfl⟩
  rw [← hR]
  have HR := Lib.hid hR
  obtain ⟨N, hN⟩ : ∃ N, N = bs.length := ⟨_, rfl⟩
  rw [← hN] at hc1 hl ⊢
  have HN := Lib.hid hN
  clear hs hv hR hN
  go_enter Tryd.func52, Tryd.ntmps52
  go_wp2
  go_loop [2, 9] (fun vv vi => ∃ k acc : Nat, k ≤ N ∧ k ≤ 9 ∧ vi = .int .i64 k ∧ vv = .int .u64 acc ∧ Hid (takeVarF (bs.drop k) k acc = R) ∧ Hid (acc < 128 ^ k)) (fun _ vi => N - (intOf vi).toNat)
  case atStart => exact ⟨0, 0, by omega, by omega, rfl, rfl, Lib.hid HR.out.symm, Lib.hid (by decide)⟩
  case round =>
    obtain ⟨k, acc, hk, hk10, rfl, rfl, hrel, hacc⟩ := hrel
    clear HR
    by_cases hlt : k < N
    · have hkb : k < bs.length := by rw [← HN.out]; exact hlt
      obtain ⟨ad, rfl, hcell⟩ := HC.out k hkb
      have hdr := List.drop_eq_getElem_cons hkb
      obtain ⟨c, hc⟩ : ∃ c, c = bs[k] := ⟨_, rfl⟩
      rw [← hc] at hcell hdr
      have hst := hrel.out
      rw [hdr] at hst
      have hvs := varStep hk10 hst
      have hcb := n8_bd c
      have hnc : n8 c = (c.toNat : Int) := rfl
      clear hc hdr hst hrel HC hkb
      by_cases h9 : k = 9
      · subst h9
        have hcell : w.cell? ⟨ad.block, ad.off + 9, none⟩ = some (V8 c) := hcell
        have ha : acc < 9223372036854775808 := hacc.out
        cases hvs with
        | range _ h1 e =>
          subst e
          have g1 : (1 : Int) < n8 c := by omega
          clear hnc h1 ha hacc
          go_wp2
          refine bodyPost_ret (v := .tuple #[.int .u64 0, .int .i64 0, .int .i64 5]) (by simp [results, Tryd.results52, go_sem]) rfl ?_
          exact ⟨rfl, rfl⟩
        | more _ h1 _ => omega
        | form hz _ e =>
          subst e
          have g1 : n8 c = 0 := by omega
          clear hnc hz ha hacc
          go_wp2
          refine bodyPost_ret (v := .tuple #[.int .u64 0, .int .i64 0, .int .i64 9]) (by simp [results, Tryd.results52, go_sem]) rfl ?_
          exact ⟨rfl, rfl⟩
        | done h1 h2 h3 e =>
          have hc1' : c.toNat = 1 := by have := h2 rfl; have := h3; omega
          have hor := or_var (acc := acc) (j := 63) (c := c) 9223372036854775808 (by decide) ha (by decide) (by rw [hc1']; decide)
          have e : R = (acc + c.toNat % 128 * 9223372036854775808, 10, 0) := e
          obtain ⟨A2, hA2⟩ : ∃ A2, A2 = acc + c.toNat % 128 * 9223372036854775808 := ⟨_, rfl⟩
          rw [← hA2] at hor e
          subst e
          have g1 : n8 c = 1 := by omega
          have hor1 : bits .or .u64 (acc : Int) (IntKind.u64.wrap (IntKind.u64.wrap (bits .andNot .u8 1 128) * 9223372036854775808)) = (A2 : Int) := by rw [← g1]; exact hor
          clear hnc h1 h2 h3 ha hacc hc1' hA2
          go_wp2
          refine bodyPost_ret (v := .tuple #[.int .u64 A2, .int .i64 10, .int .i64 0]) (by simp [results, Tryd.results52, go_sem]) rfl ?_
          exact ⟨rfl, rfl⟩
      · have hk9 : k < 9 := by omega
        have hor := or_var' (acc := acc) (k := k) (c := c) hk10 hacc.out (take_cut c k hk9)
        have HAC := Lib.hid (take_next (c := c) hacc.out)
        cases hvs with
        | range h1 _ _ => exact absurd h1 h9
        | more h1 _ e =>
          have HST := Lib.hid e
          have g1 : (128 : Int) ≤ n8 c := by omega
          have g2 : ¬ n8 c = 0 := by omega
          obtain ⟨A2, hA2⟩ : ∃ A2, A2 = acc + c.toNat % 128 * 128 ^ k := ⟨_, rfl⟩
          rw [← hA2] at hor HAC HST
          clear hnc h1 e hacc hA2
          go_wp2
          exact ⟨⟨k + 1, A2, by omega, by omega, by go_num, rfl, HST, HAC⟩, by simp [intOf]; omega⟩
        | form hz hk0 e =>
          subst e
          have g1 : n8 c = 0 := by omega
          have hor1 := hor
          rw [g1] at hor1
          clear hnc hz hacc
          go_wp2
          refine bodyPost_ret (v := .tuple #[.int .u64 0, .int .i64 0, .int .i64 9]) (by simp [results, Tryd.results52, go_sem]) rfl ?_
          exact ⟨rfl, rfl⟩
        | done h1 h2 h3 e =>
          obtain ⟨A2, hA2⟩ : ∃ A2, A2 = acc + c.toNat % 128 * 128 ^ k := ⟨_, rfl⟩
          rw [← hA2] at hor e
          subst e
          by_cases hz : c.toNat = 0
          · have hk0 := h3 hz
            have g1 : n8 c = 0 := by omega
            have hor1 := hor
            rw [g1] at hor1
            have gk : ¬ (0 : Int) < (k : Int) := by omega
            clear hnc h1 h2 h3 hacc hA2 hz HAC hk0
            go_wp2
            refine bodyPost_ret (v := .tuple #[.int .u64 A2, .int .i64 (k + 1), .int .i64 0]) (by simp [results, Tryd.results52, go_sem]) rfl ?_
            exact ⟨rfl, rfl⟩
          · have g1 : ¬ n8 c = 0 := by omega
            have g2 : n8 c < 128 := by omega
            clear hnc h1 h2 h3 hacc hA2 hz HAC
            go_wp2
            refine bodyPost_ret (v := .tuple #[.int .u64 A2, .int .i64 (k + 1), .int .i64 0]) (by simp [results, Tryd.results52, go_sem]) rfl ?_
            exact ⟨rfl, rfl⟩
    · obtain rfl : N = k := by omega
      have hst0 : R = (0, 0, 2) := by rw [← hrel.out, List.drop_eq_nil_of_le (by rw [← HN.out]; exact Nat.le_refl _), takeVarF]
      subst hst0
      clear hrel hacc
      go_wp2
      refine bodyPost_ret (v := .tuple #[.int .u64 0, .int .i64 0, .int .i64 2]) (by simp [results, Tryd.results52, go_sem]) rfl ?_
      exact ⟨rfl, rfl⟩
end Go.Proofs.YtpbekhcogpkbpaaDoor
