/-
  The walk of the document's TakeVar.
-/
import Derived.Test.YtpbekhcogpkbpaaDoorVaB2
set_option linter.unusedSimpArgs false
set_option linter.unusedVariables false
namespace Go.Proofs.YtpbekhcogpkbpaaDoor
open Go.RowKit

set_option maxRecDepth 100000 in
set_option maxHeartbeats 2000000 in
theorem reftakevar_any (v : Value) (bs : List UInt8) (S : Nat → Prop) (w : World) (hv : By w S v bs) (hl : bs.length ≤ 100000) :
    Calls Tryd.prog 55 #[v] w (VarP bs w) := by
  unfold VarP
  obtain ⟨A, cap, rfl, hc1, hm, hs⟩ := id hv
  have HC := Lib.hid (By.cells hv).2
  unfold maxLen at hm
  obtain ⟨R, hR⟩ : ∃ R, R = takeVarF bs 0 0 := ⟨_, rfl⟩
  rw [← hR]
  have HR := Lib.hid hR
  obtain ⟨N, hN⟩ : ∃ N, N = bs.length := ⟨_, rfl⟩
  rw [← hN] at hc1 hl ⊢
  have HN := Lib.hid hN
  clear hs hv hR hN
  go_enter Tryd.func55, Tryd.ntmps55
  go_wp2
  go_loop [5, 6, 7] (fun vv vu vi => ∃ k acc U : Nat, k ≤ N ∧ k ≤ 9 ∧ vi = .int .i64 k ∧ vv = .int .u64 acc ∧ vu = .int .u64 U ∧ Hid (U = 128 ^ k) ∧ Hid (takeVarF (bs.drop k) k acc = R) ∧ Hid (acc < 128 ^ k)) (fun _ _ vi => N - (intOf vi).toNat)
  case atStart => exact ⟨0, 0, 1, by omega, by omega, rfl, rfl, rfl, Lib.hid (by decide), Lib.hid HR.out.symm, Lib.hid (by decide)⟩
  case round =>
    obtain ⟨k, acc, U, hk, hk10, rfl, rfl, rfl, hU, hrel, hacc⟩ := hrel
    clear HR
    by_cases hlt : k < N
    · have hkb : k < bs.length := by rw [← HN.out]; exact hlt
      obtain ⟨ad, rfl, hcell⟩ := HC.out k hkb
      have hdr := List.drop_eq_getElem_cons hkb
      obtain ⟨c, hc⟩ : ∃ c, c = bs[k] := ⟨_, rfl⟩
      rw [← hc] at hcell hdr
      have hst := hrel.out
      rw [hdr] at hst
      have hvs := varStep hk10 hst
      have hcb := n8_bd c
      have hnc : n8 c = (c.toNat : Int) := rfl
      have hcI : (k : Int) < 10 := by omega
      have hcell9 : Hid (k = 9 → w.cell? ⟨ad.block, ad.off + 9, none⟩ = some (V8 c)) := Lib.hid fun h => by subst h; exact hcell
      clear hc hdr hst hrel HC hkb
      cases hvs with
      | range h9 h1 e =>
        subst e
        subst h9
        have hcell : w.cell? ⟨ad.block, ad.off + 9, none⟩ = some (V8 c) := hcell
        have g1 : (1 : Int) < n8 c := by omega
        clear hnc h1 hacc hU
        go_wp2
        refine bodyPost_ret (v := .tuple #[.int .u64 0, .int .i64 0, .int .i64 5]) (by simp [results, Tryd.results55, go_sem]) rfl ?_
        exact ⟨rfl, rfl⟩
      | more h1 hk9 e =>
        have HST := Lib.hid e
        have HAC := Lib.hid (take_next (c := c) hacc.out)
        have hcut := take_cut c k hk9
        have hn9 : ¬ (k : Int) = 9 := by omega
        have hU2 : Hid (U * 128 = 128 ^ (k + 1)) := Lib.hid (by rw [hU.out, Nat.pow_succ])
        have hUb : U * 128 < 18446744073709551616 := by
          rw [hU2.out]
          have : (128:Nat) ^ (k + 1) ≤ 128 ^ 9 := Nat.pow_le_pow_right (by decide) (by omega)
          have : (128:Nat) ^ 9 < 18446744073709551616 := by decide
          omega
        rw [← hU.out] at hcut HAC HST
        have hA2b : acc + c.toNat % 128 * U < 18446744073709551616 := by
          have h1 := HAC.out
          have : (128:Nat) ^ (k + 1) ≤ 128 ^ 9 := Nat.pow_le_pow_right (by decide) (by omega)
          have : (128:Nat) ^ 9 < 18446744073709551616 := by decide
          omega
        obtain ⟨m, hm1⟩ : ∃ m, m = c.toNat % 128 * U := ⟨_, rfl⟩
        have f1 : n8 c % 128 * (U : Int) = (m : Int) := by rw [hm1, hnc]; push_cast; rfl
        rw [← hm1] at hcut hA2b HAC HST
        have g1 : (128 : Int) ≤ n8 c := by omega
        clear hnc h1 e hacc hm1 hU
        go_wp2
        exact ⟨⟨k + 1, acc + m, U * 128, by omega, by omega, by go_num, by go_num, by go_num, hU2, HST, HAC⟩, by simp [intOf]; omega⟩
      | form hz hk0 e =>
        subst e
        have g1 : n8 c = 0 := by omega
        have gk : (0 : Int) < (k : Int) := by omega
        clear hnc hz hacc hU hk0
        by_cases h9 : k = 9
        · have g4 : (k : Int) = 9 := by omega
          have hc9 := hcell9.out h9
          clear h9
          go_wp2
          refine bodyPost_ret (v := .tuple #[.int .u64 0, .int .i64 0, .int .i64 9]) (by simp [results, Tryd.results55, go_sem]) rfl ?_
          exact ⟨rfl, rfl⟩
        have g4 : ¬ (k : Int) = 9 := by omega
        go_wp2
        refine bodyPost_ret (v := .tuple #[.int .u64 0, .int .i64 0, .int .i64 9]) (by simp [results, Tryd.results55, go_sem]) rfl ?_
        exact ⟨rfl, rfl⟩
      | done h1 h2 h3 e =>
        have hA2b : acc + c.toNat % 128 * U < 18446744073709551616 := by
          have ha := hacc.out
          by_cases h9 : k = 9
          · subst h9
            have hu := hU.out
            have e9 : (128:Nat) ^ 9 = 9223372036854775808 := by decide
            rw [e9] at hu ha
            have hc1 := h2 rfl
            have : c.toNat % 128 * U ≤ 1 * U := Nat.mul_le_mul_right _ (by omega)
            omega
          · have h4 := take_next (c := c) ha
            rw [← hU.out] at h4
            have : (128:Nat) ^ (k + 1) ≤ 128 ^ 9 := Nat.pow_le_pow_right (by decide) (by omega)
            have : (128:Nat) ^ 9 < 18446744073709551616 := by decide
            omega
        rw [← hU.out] at e
        obtain ⟨m, hm1⟩ : ∃ m, m = c.toNat % 128 * U := ⟨_, rfl⟩
        have f1 : n8 c % 128 * (U : Int) = (m : Int) := by rw [hm1, hnc]; push_cast; rfl
        rw [← hm1] at hA2b e
        have g2 : n8 c < 128 := by omega
        subst e
        by_cases hz : c.toNat = 0
        · have hk0 := h3 hz
          have g1 : n8 c = 0 := by omega
          have gk : ¬ (0 : Int) < (k : Int) := by omega
          have gm : m = 0 := by rw [hm1, hz]; simp
          subst gm
          clear hnc h1 h2 h3 hacc hz hk0 hm1 hU f1
          go_wp2
          refine bodyPost_ret (v := .tuple #[.int .u64 acc, .int .i64 (k + 1), .int .i64 0]) (by simp [results, Tryd.results55, go_sem]) rfl ?_
          exact ⟨rfl, rfl⟩
        · have g1 : ¬ n8 c = 0 := by omega
          by_cases h9 : k = 9
          · have g3 : n8 c ≤ 1 := by have := h2 h9; omega
            have g4 : (k : Int) = 9 := by omega
            have hc9 := hcell9.out h9
            clear hnc h1 h2 h3 hacc hz hm1 hU h9
            go_wp2
            refine bodyPost_ret (v := .tuple #[.int .u64 ((acc + m : Nat) : Int), .int .i64 10, .int .i64 0]) (by simp [results, Tryd.results55, go_sem]) rfl ?_
            exact ⟨rfl, rfl⟩
          · have g4 : ¬ (k : Int) = 9 := by omega
            clear hnc h1 h2 h3 hacc hz hm1 hU h9
            go_wp2
            refine bodyPost_ret (v := .tuple #[.int .u64 ((acc + m : Nat) : Int), .int .i64 (k + 1), .int .i64 0]) (by simp [results, Tryd.results55, go_sem]) rfl ?_
            exact ⟨rfl, rfl⟩
    · obtain rfl : N = k := by omega
      have hst0 : R = (0, 0, 2) := by rw [← hrel.out, List.drop_eq_nil_of_le (by rw [← HN.out]; exact Nat.le_refl _), takeVarF]
      subst hst0
      have hcI : (N : Int) < 10 := by omega
      clear hrel hacc hU
      go_wp2
      refine bodyPost_ret (v := .tuple #[.int .u64 0, .int .i64 0, .int .i64 2]) (by simp [results, Tryd.results55, go_sem]) rfl ?_
      exact ⟨rfl, rfl⟩
end Go.Proofs.YtpbekhcogpkbpaaDoor
