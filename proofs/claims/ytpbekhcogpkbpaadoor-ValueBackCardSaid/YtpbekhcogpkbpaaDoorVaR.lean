/-
  The walk of ValueReads.
-/
import Derived.Test.YtpbekhcogpkbpaaDoorVaQ
set_option linter.unusedSimpArgs false
set_option linter.unusedVariables false
namespace Go.Proofs.YtpbekhcogpkbpaaDoor
open Go.RowKit

set_option maxRecDepth 100000 in
set_option maxHeartbeats 2000000 in
theorem reads_walk (v : Value) (b : List UInt8) (S : Nat → Prop) (w : World) (hv : By w S v b) (hE : EnvT w) :
    Calls Tryd.prog 6 #[v] w (BoolP true w) := by
  obtain ⟨A, cap, rfl, hc1, hc2, -⟩ := id hv
  obtain ⟨N, hN⟩ : ∃ N, N = b.length := ⟨_, rfl⟩
  have HV := Lib.hid hv
  rw [← hN] at hc1 hv ⊢
  have hHV : Hid (By w S (.slice A N cap) b) := Lib.hid hv
  have HN := Lib.hid hN
  have hbg := begun_any w hE
  unfold BoolP at hbg ⊢
  clear hv hE HV hN
  by_cases hl : 1024 < N
  · go_enter Tryd.func6, Tryd.ntmps6
    go_wp2_with (go_at_call 8; refine hbg.mono ?_; rintro e w1 ⟨rfl, hs1⟩)
    go_ret
    exact ⟨rfl, hs1⟩
  · have hLb : b.length ≤ 1024 := by have := HN.out; omega
    have HLB := Lib.hid hLb
    clear hLb
    go_enter Tryd.func6, Tryd.ntmps6
    go_wp2_with (first | (go_at_call 8; refine hbg.mono ?_; rintro e w1 ⟨rfl, hs1⟩) | (go_at_call 10; refine stopAt ?_))
    unfold Hid
    have htw := twin_any _ b S w1 (hHV.out.keepAll hs1) (by have := HLB.out; omega)
    have HS1 := Lib.hid hs1
    clear hbg hs1
    refine htw.mono ?_
    rintro e w2 ⟨t, g, rfl, hg, ht, hs2⟩
    have HS2 := Lib.hid (HS1.out.trans hs2)
    have HT := Lib.hid ht
    have hm3 : b.length + 3 ≤ maxLen := by have := HLB.out; simp only [maxLen]; omega
    have htk := takekey_any t b _ w2 (ht.by hm3) (by have := HLB.out; omega)
    obtain ⟨R, hR⟩ : ∃ R, R = takeKeyF b := ⟨_, rfl⟩
    rw [← hR] at htk
    have HR := Lib.hid hR
    clear htw hs2 ht hR
    go_wp2_with (go_at_call 23; refine stopAt ?_)
    unfold Hid
    refine htk.mono ?_
    rintro e w3 ⟨rfl, hs3⟩
    have HS3 := Lib.hid (HS2.out.trans hs3)
    have HT3 := Lib.hid (HT.out.keep hs3 trivial)
    clear htk hs3 HT
    -- rest
    have hc4 := reftakekey_any _ b _ (w3.alloc (.cells #[.int .i64 R.1.kind, .int .i64 R.1.n, .string (str R.1.s)] 24)) (hHV.out.keepAll ((HS3.out.alloc _))) (by have := HLB.out; omega)
    rw [← HR.out] at hc4
    go_wp2_with (go_at_call 24; refine stopAt ?_)
    unfold Hid
    refine hc4.mono ?_
    rintro e w4 ⟨rfl, hs4⟩
    have HS4 := Lib.hid ((HS3.out.alloc (.cells #[.int .i64 R.1.kind, .int .i64 R.1.n, .string (str R.1.s)] 24)).trans hs4)
    have HT4 := Lib.hid ((HT3.out.keep ((Same.refl (fun _ => True) _).alloc (.cells #[.int .i64 R.1.kind, .int .i64 R.1.n, .string (str R.1.s)] 24)) trivial).keep hs4 trivial)
    have row3 : Row w4 w3.heap.size 24 (valCs R.1) := (val_new w3 R.1).keep hs4 trivial
    have hd3 := row3.lt
    have HRow3 := Lib.hid row3
    clear hc4 hs4 HT3 row3
    have hc5 := take_any t b _ (w4.alloc (.cells #[.int .i64 R.1.kind, .int .i64 R.1.n, .string (str R.1.s)] 24)) ((HT4.out.keep ((Same.refl (fun _ => True) _).alloc _) trivial).by hm3) (by have := HLB.out; omega)
    obtain ⟨Q, hQ⟩ : ∃ Q, Q = takeF b := ⟨_, rfl⟩
    rw [← hQ] at hc5
    have HQ := Lib.hid hQ
    clear hQ
    go_wp2_with (go_at_call 25; refine stopAt ?_)
    unfold Hid
    refine hc5.mono ?_
    rintro e w5 ⟨rfl, hs5⟩
    have HS5 := Lib.hid ((HS4.out.alloc (.cells #[.int .i64 R.1.kind, .int .i64 R.1.n, .string (str R.1.s)] 24)).trans hs5)
    have HT5 := Lib.hid ((HT4.out.keep ((Same.refl (fun _ => True) _).alloc (.cells #[.int .i64 R.1.kind, .int .i64 R.1.n, .string (str R.1.s)] 24)) trivial).keep hs5 trivial)
    have row4 : Row w5 w4.heap.size 24 (valCs R.1) := (val_new w4 R.1).keep hs5 trivial
    have hd4 := row4.lt
    have row3 : Row w5 w3.heap.size 24 (valCs R.1) := (HRow3.out.keep ((Same.refl (fun _ => True) _).alloc _) trivial).keep hs5 trivial
    have HRow3 := Lib.hid row3
    have HRow4 := Lib.hid row4
    clear hc5 hs5 HT4 row3 row4
    have hc6 := reftake_any _ b _ (w5.alloc (.cells #[.int .i64 Q.1.kind, .int .i64 Q.1.n, .string (str Q.1.s)] 24)) (hHV.out.keepAll ((HS5.out.alloc _))) (by have := HLB.out; omega)
    rw [← HQ.out] at hc6
    go_wp2_with (go_at_call 26; refine stopAt ?_)
    unfold Hid
    refine hc6.mono ?_
    rintro e w6 ⟨rfl, hs6⟩
    have HS6 := Lib.hid ((HS5.out.alloc (.cells #[.int .i64 Q.1.kind, .int .i64 Q.1.n, .string (str Q.1.s)] 24)).trans hs6)
    have HT6 := Lib.hid ((HT5.out.keep ((Same.refl (fun _ => True) _).alloc (.cells #[.int .i64 Q.1.kind, .int .i64 Q.1.n, .string (str Q.1.s)] 24)) trivial).keep hs6 trivial)
    have row5 : Row w6 w5.heap.size 24 (valCs Q.1) := (val_new w5 Q.1).keep hs6 trivial
    have hd5 := row5.lt
    have row3 : Row w6 w3.heap.size 24 (valCs R.1) := (HRow3.out.keep ((Same.refl (fun _ => True) _).alloc _) trivial).keep hs6 trivial
    have row4 : Row w6 w4.heap.size 24 (valCs R.1) := (HRow4.out.keep ((Same.refl (fun _ => True) _).alloc _) trivial).keep hs6 trivial
    have HRow3 := Lib.hid row3
    have HRow4 := Lib.hid row4
    have HRow5 := Lib.hid row5
    clear hc6 hs6 HT5 row3 row4 row5
    obtain ⟨x30, x31, x32, -, -, -⟩ := val_cells HRow3.out
    have y3 := HRow3.out.lt
    obtain ⟨x40, x41, x42, -, -, -⟩ := val_cells HRow4.out
    have y4 := HRow4.out.lt
    obtain ⟨x50, x51, x52, -, -, -⟩ := val_cells HRow5.out
    have y5 := HRow5.out.lt
    have hkp : ∀ W, Same (fun _ => True) w6 W → Calls Tryd.prog 15 #[t, .slice A N cap] W (fun e w' => e = .returned (.bool true) ∧ w' = W) := fun W hW => kept_any t (.slice A N cap) b g _ W (HT6.out.keep hW trivial) (hHV.out.keepAll (HS6.out.trans hW)) (by have := HLB.out; omega)
    go_wp2_with (go_at_call 15; refine stopAt ?_)
    unfold Hid
    refine (hkp _ ((Same.refl (fun _ => True) _).alloc _)).mono ?_
    rintro e w7 ⟨rfl, rfl⟩
    go_wp2
    go_ret
    exact ⟨rfl, HS6.out.alloc _⟩
end Go.Proofs.YtpbekhcogpkbpaaDoor
