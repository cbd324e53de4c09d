/-
  WalLast: its walk.
-/
import Derived.Test.YtpjinngngbifoaaWal4
set_option linter.unusedSimpArgs false
set_option linter.unusedVariables false
namespace Go.Proofs.Ytpjinngngbifoaa
open Go.RowKit

/-- A log in memory that holds these records. -/
def LastIn (w : World) (p g r : Nat) (recs : List (List UInt8)) (s gn : Nat) (wr : World) : Prop :=
  ∃ d l F, LogJ recs s gn 2000 d l ∧ LogAt wr p g r F d l ∧ Same (fun _ => True) w wr
theorem LastIn.rew {w : World} {p g r : Nat} {recs : List (List UInt8)} {s gn : Nat} {wr : World} (h : LastIn w p g r recs s gn wr) (hB : w.heap.size ≤ p ∧ w.heap.size ≤ g ∧ w.heap.size ≤ r) (hl : recs.length ≤ 10) (hf : recs.flatten.length ≤ 1000) (hs : s ≤ 1000) (hgn : gn + 1 < 4611686018427387904) {v : Value} {S : Nat → Prop} (hv : ByL wr S v recs) :
    Calls Try.prog 21 #[ptr p, v] wr fun e w' => e = .returned (.int .i64 0) ∧ LastIn w p g r recs (s + 3) (gn + 1) w' := by
  obtain ⟨d, l, F, hI, hL, hS⟩ := h
  obtain ⟨d', l', ha, hI'⟩ := hI.rew recs hI.small (by omega) hgn
  have hst := hI.steps
  have hc := wrewrite_any p g r F S d l v recs wr hL (hI.fit (by omega)) (by omega) hv (by omega) (Lib.hid fun x hx => by have := mem_flat_le hx; omega) (by rw [fileW_len]; omega) (hI.wfit (by omega))
  rw [ha] at hc
  refine hc.mono ?_
  rintro e w' ⟨rfl, ⟨F', hF', hL'⟩, hS'⟩
  exact ⟨rfl, d', l', F', hI', hL', hS.trans' hS' fun k hk _ => ⟨by omega, by omega, by omega⟩⟩
theorem LastIn.full {w : World} {p g r : Nat} {recs : List (List UInt8)} {s gn : Nat} {wr : World} (h : LastIn w p g r recs s gn wr) (hB : w.heap.size ≤ p ∧ w.heap.size ≤ g ∧ w.heap.size ≤ r) (hl : recs.length ≤ 10) (hf : recs.flatten.length ≤ 1000) (hs : s ≤ 1000) (hgn : 4611686018427387904 ≤ gn + 1) {v : Value} {S : Nat → Prop} (hv : ByL wr S v recs) :
    Calls Try.prog 21 #[ptr p, v] wr fun e w' => e = .returned (.int .i64 8) ∧ LastIn w p g r recs s gn w' := by
  obtain ⟨d, l, F, hI, hL, hS⟩ := h
  have ha := hI.full recs hgn
  have hst := hI.steps
  have hc := wrewrite_any p g r F S d l v recs wr hL (hI.fit (by omega)) (by omega) hv (by omega) (Lib.hid fun x hx => by have := mem_flat_le hx; omega) (by rw [fileW_len]; omega) (hI.wfit (by omega))
  rw [ha] at hc
  refine hc.mono ?_
  rintro e w' ⟨rfl, ⟨F', hF', hL'⟩, hS'⟩
  exact ⟨rfl, d, l, F', hI, hL', hS.trans' hS' fun k hk _ => ⟨by omega, by omega, by omega⟩⟩
theorem LastIn.count {w : World} {p g r : Nat} {recs : List (List UInt8)} {s gn : Nat} {wr : World} (h : LastIn w p g r recs s gn wr) :
    Calls Try.prog 22 #[ptr p] wr fun e w' => e = .returned (.int .i64 recs.length) ∧ LastIn w p g r recs s gn w' := by
  obtain ⟨d, l, F, hI, hL, hS⟩ := h
  have hc := wcount_any p g r F d l wr hL
  rw [hI.live] at hc
  refine hc.mono ?_
  rintro e w' ⟨rfl, hS'⟩
  exact ⟨rfl, d, l, F, hI, hL.keepAll hS', hS.trans hS'⟩
theorem LastIn.app {w : World} {p g r : Nat} {recs : List (List UInt8)} {s gn : Nat} {wr : World} (h : LastIn w p g r recs s gn wr) (hB : w.heap.size ≤ p ∧ w.heap.size ≤ g ∧ w.heap.size ≤ r) (hl : recs.length ≤ 10) (hf : recs.flatten.length ≤ 1000) (hs : s ≤ 1000) :
    Calls Try.prog 18 #[ptr p, .slice none 0 0] wr fun e w' => e = .returned (.int .i64 0) ∧ Same (fun _ => True) w w' := by
  obtain ⟨d, l, F, hI, hL, hS⟩ := h
  obtain ⟨d', l', ha, hI', -⟩ := hI.app [] (by simp) (by rw [List.length_nil]; omega)
  have hsz := hI.size
  have hc := wappend_any p g r F (fun _ => True) d l (.slice none 0 0) [] wr hL (hI.fit (by omega)) ⟨none, 0, rfl, by simp, by simp [maxLen], Sl.nil _ _ _ _⟩ (by simp) (by simp; omega) (hI.wfit (by omega))
  rw [ha] at hc
  refine hc.mono ?_
  rintro e w' ⟨rfl, -, hS'⟩
  exact ⟨rfl, hS.trans' hS' fun k hk _ => ⟨by omega, by omega, by omega⟩⟩
theorem LastIn.same {w : World} {p g r : Nat} {recs : List (List UInt8)} {s gn : Nat} {wr : World} (h : LastIn w p g r recs s gn wr) : Same (fun _ => True) w wr := by
  obtain ⟨d, l, F, -, -, h⟩ := h
  exact h
set_option maxRecDepth 100000 in
set_option maxHeartbeats 1000000 in
theorem wallast_walk (b : UInt8) (v : Value) (t : Bool) (recs : List (List UInt8)) (w : World) (hv : ByL w (· < w.heap.size) v recs) :
    Calls Try.prog 4 #[.int .u8 (n8 b), v, .bool t] w (TrueP w) := by
  obtain ⟨A, ca, vs, rfl, hca, hma, -, -⟩ := id hv
  have HV := Lib.hid hv
  have hsum := fun W (h : Same (fun _ => True) w W) => sum_any _ recs 1000 _ W (hv.keep (h.mono fun _ _ _ => trivial)) (by omega) (by omega)
  unfold maxLen at hma
  clear hv
  by_cases hlong : 5 < recs.length
  · clear hsum
    go_enter Try.func4, Try.ntmps4
    go_wp2_with (go_at_call 9; refine (walbegun_any _).mono ?_; rintro e w1 ⟨rfl, hs1⟩)
    go_ret
    exact ⟨rfl, hs1⟩
  have hl5 : recs.length ≤ 5 := by omega
  clear hlong
  by_cases h2 : 1000 < sumF 1000 recs
  · have HSUM := Lib.hid hsum
    clear hsum
    go_enter Try.func4, Try.ntmps4
    go_wp2_with (first
      | (go_at_call 9; refine (walbegun_any _).mono ?_; rintro e w1 ⟨rfl, hs1⟩)
      | (go_at_call 10; refine (HSUM.out _ hs1).mono ?_; rintro e w' ⟨rfl, rfl⟩))
    go_ret
    exact ⟨rfl, hs1⟩
  have h3 := sumFrom_small (most := 1000) (by omega) recs 0 (by omega) (by unfold sumF at h2; omega)
  have hflat : recs.flatten.length ≤ 1000 := by have := h3.1; omega
  have hsI : sumF 1000 recs ≤ 1000 := by omega
  have HFL := Lib.hid hflat
  have HSM : Hid (Small recs) := Lib.hid fun x hx => by have := mem_flat_le hx; omega
  clear h2 h3 hflat
  obtain ⟨q, hq⟩ : ∃ q, q = b.toNat % 3 := ⟨_, rfl⟩
  have hq3 : q < 3 := by omega
  have hm1 : (n8 b) % 3 = (q : Int) := by unfold n8; omega
  have hm2 : (n8 b).tmod 3 = (q : Int) := by rw [Int.tmod_eq_emod_of_nonneg (n8_bd b).1]; exact hm1
  have hb0 := (n8_bd b).1
  have hb1 := (n8_bd b).2
  obtain ⟨G, hG⟩ : ∃ G, G = 4611686018427387903 - q := ⟨_, rfl⟩
  have hwr : IntKind.u64.wrap (4611686018427387903 - (q : Int)) = (G : Int) := by simp [IntKind.wrap, IntKind.bits, IntKind.signed]; omega
  have hwu : IntKind.u64.wrap (q : Int) = (q : Int) := by simp [IntKind.wrap, IntKind.bits, IntKind.signed]; omega
  have HG := Lib.hid hG
  have hG64 : Hid (G < 2 ^ (8 * 8)) := Lib.hid (by omega)
  have hgok : Hid (1 ≤ G ∧ G < 4611686018427387904) := Lib.hid (by omega)
  have HQ := Lib.hid hq
  obtain ⟨N, hN⟩ : ∃ N, N = recs.length := ⟨_, rfl⟩
  rw [← hN] at hca hl5 hsum ⊢
  have HV' := HV.out
  rw [← hN] at HV'
  have HV2 := Lib.hid HV'
  have HSUM := Lib.hid hsum
  have HN := Lib.hid hN
  clear HV HV' hsum hN hq hG
  have hwi : IntKind.i64.wrap (q : Int) = (q : Int) := by simp [IntKind.wrap, IntKind.bits, IntKind.signed]; omega
  cases t
  · go_enter Try.func4, Try.ntmps4
    go_wp2_with (first
      | (go_at_call 9; refine (walbegun_any _).mono ?_; rintro e w1 ⟨rfl, hs1⟩)
      | (go_at_call 10; refine (HSUM.out _ hs1).mono ?_; rintro e w' ⟨rfl, rfl⟩)
      | (go_at_call 12; refine stopAt ?_))
    unfold Hid
    have hX1 : By w1 (fun _ => True) (.slice none 0 0) (tailL false) := ⟨none, 0, rfl, by simp [tailL], by simp [maxLen], Sl.nil _ _ _ _⟩
    have hsn : Same (fun _ => True) w w1 := hs1
    refine (dnew_any _).mono ?_
    rintro e w2 ⟨g, r, rfl, hg, hr, hD0, hs2⟩
    have hX := hX1.keep hs2
    have HS2 := Lib.hid (hsn.trans hs2)
    have hwh := whole_any G (.slice A N ca) (.slice none 0 0) recs (tailL false) _ _ w2 hG64.out (HV2.out.keep (HS2.out.mono fun _ _ _ => trivial)) hX (by rw [← HN.out]; omega) (by have := HFL.out; rw [fileW_len, ← HN.out]; omega) (by decide)
    have hgw : w.heap.size ≤ g ∧ w.heap.size ≤ r := by have := hsn.size; omega
    clear hX1 hX hsn hs2 hs1 hg hr
    go_wp2_with (go_at_call 14; refine stopAt ?_)
    unfold Hid
    refine hwh.mono ?_
    rintro e w3 ⟨u3, rfl, hu3, hs3⟩
    have hbl : (fileW G recs ++ tailL false).length ≤ 1080 := by
      have := HFL.out
      have e : (tailL false).length ≤ 3 := by decide
      rw [List.length_append, fileW_len, ← HN.out]; omega
    have hap := dappend_any g r _ _ DiskM.new 0 u3 (fileW G recs ++ tailL false) w3 (hD0.keepAll hs3) ⟨by decide, by decide⟩ hu3.by_ (by show 0 + _ ≤ _; omega)
    rw [hand_eq] at hap
    obtain ⟨B, hB⟩ : ∃ B, B = fileW G recs ++ tailL false := ⟨_, rfl⟩
    have hlk : LookF B (some ⟨G, recs, false⟩) := by rw [hB]; exact look_hand hgok.out recs HSM.out false
    rw [← hB] at hu3 hap hbl
    obtain ⟨A3, c3, rfl, -, -⟩ := hu3.form
    have HB := Lib.hid hB
    have HLK := Lib.hid hlk
    have HS3 := Lib.hid (HS2.out.trans hs3)
    clear hu3 hwh hB hlk hD0 hs3
    go_wp2_with (go_at_call 13; refine stopAt ?_)
    unfold Hid
    refine hap.mono ?_
    rintro e w4 ⟨rfl, ⟨F4, hF4, hD4⟩, hs4⟩
    have HS4 : Hid (Same (fun _ => True) w w4) := Lib.hid (HS3.out.trans' hs4 fun k hk _ => by constructor <;> omega)
    have hop := wopen_any g r F4 (handD B) (some ⟨G, recs, false⟩) none w4 hD4 ⟨⟨Int.le_refl _, show (-1 : Int) ≤ _ by decide⟩, show 1 < _ by decide⟩ (show 1 + 3 < _ by decide) HLK.out look_nil (by show B.length ≤ _; omega) (Nat.zero_le _)
    clear hap hs4 hF4
    obtain ⟨l5, hO5, hJ5⟩ := last_plain (n := 2000) hgok.out recs HSM.out (by have := HFL.out; rw [← HN.out]; omega)
    rw [← HB.out] at hO5 hJ5
    rw [hO5] at hop
    have HJ := Lib.hid hJ5
    obtain ⟨Lf, hLf⟩ : ∃ Lf, Lf = q := ⟨_, rfl⟩
    have HGL : Hid (G + Lf + 1 = 4611686018427387904) := Lib.hid (by have := HG.out; omega)
    subst hLf
    clear hO5 hJ5
    go_wp2_with (go_at_call 15; refine stopAt ?_)
    unfold Hid
    refine hop.mono ?_
    intro e w5 hpost
    obtain ⟨A5, c5, F5, rfl, hF5, hby5, hL5, hS5⟩ := hpost.some
    obtain ⟨p, hp⟩ : ∃ p, p = w4.heap.size := ⟨_, rfl⟩
    rw [← hp] at hL5 hby5 ⊢
    have hBB : w.heap.size ≤ p ∧ w.heap.size ≤ g ∧ w.heap.size ≤ r := by have := HS4.out.size; omega
    have HI := Lib.hid (show LastIn w p g r recs 1 G w5 from ⟨_, _, F5, HJ.out, hL5, HS4.out.trans' hS5 fun k hk _ => by constructor <;> omega⟩)
    have HBY5 := Lib.hid hby5
    have hT := texts_any _ recs _ w5 (HV2.out.keep (HI.out.same.mono fun _ _ _ => trivial)) (by rw [← HN.out]; omega)
    clear hpost hF5 hL5 hS5 hby5 hop hD4 hp
    rw [← HN.out]
    go_wp2_with (go_at_call 17; refine stopAt ?_)
    unfold Hid
    refine hT.mono ?_
    rintro e w6 ⟨u6, rfl, hu6, hs6⟩
    have hK := alike_any _ u6 recs recs _ _ w6 (HBY5.out.keep (hs6.mono fun _ _ _ => trivial)) hu6.rd (by rw [← HN.out]; omega) (by rw [← HN.out]; omega)
    obtain ⟨A6, c6, rfl, -, -⟩ := OwnS.form hu6
    rw [show decide (recs = recs) = true by simp] at hK
    rw [← HN.out] at hK ⊢
    have HS6 := Lib.hid hs6
    clear hT hu6 hs6
    go_wp2_with (go_at_call 16; refine stopAt ?_)
    unfold Hid
    refine hK.mono ?_
    rintro e w7 ⟨rfl, hs7⟩
    have HI7 : Hid (LastIn w p g r recs 1 G w7) := Lib.hid (by
      obtain ⟨d, l, F, h1, h2, h3⟩ := HI.out
      have hh := HS6.out.trans hs7
      exact ⟨d, l, F, h1, h2.keepAll hh, h3.trans hh⟩)
    clear hK hs7
    go_wp2
    go_loopw [14] (fun i wr => ∃ k : Nat, k ≤ Lf ∧ i = .int .i64 k ∧ Hid (LastIn w p g r recs (1 + 3 * k) (G + k) wr)) (fun i _ => Lf - (intOf i).toNat)
    case atStart => exact ⟨0, by omega, rfl, HI7⟩
    case round =>
      obtain ⟨k, hk, rfl, HK⟩ := hrel
      obtain ⟨wo, rfl⟩ : ∃ wo : World, wo = wr := ⟨_, rfl⟩
      clear HI7 HI HBY5 HS6
      have hLl : recs.length ≤ 10 := by rw [← HN.out]; omega
      have HLl := Lib.hid hLl
      clear hLl
      by_cases hkL : k < Lf
      · have hrw := LastIn.rew HK.out hBB HLl.out HFL.out (by omega) (by have := HGL.out; omega) (HV2.out.keep (HK.out.same.mono fun _ _ _ => trivial))
        go_wp2_with (go_at_call 21; refine stopAt ?_)
        unfold Hid
        refine hrw.mono ?_
        rintro e w8 ⟨rfl, hI8⟩
        clear hrw
        go_wp2
        go_roundw
        case rel => exact ⟨k + 1, by omega, by go_num, Lib.hid hI8⟩
        case measure => simp [intOf]; omega
      · obtain rfl : Lf = k := by omega
        have hfu := LastIn.full HK.out hBB HLl.out HFL.out (by omega) (by have := HGL.out; omega) (HV2.out.keep (HK.out.same.mono fun _ _ _ => trivial))
        go_wp2_with (go_at_call 21; refine stopAt ?_)
        unfold Hid
        refine hfu.mono ?_
        rintro e w8 ⟨rfl, hI8⟩
        have hcn := hI8.count
        rw [← HN.out] at hcn
        clear hfu hI8
        go_wp2_with (go_at_call 22; refine stopAt ?_)
        unfold Hid
        refine hcn.mono ?_
        rintro e w9 ⟨rfl, hI9⟩
        have hap := hI9.app hBB HLl.out HFL.out (by omega)
        clear hcn hI9
        go_wp2_with (go_at_call 18; refine stopAt ?_)
        unfold Hid
        refine hap.mono ?_
        rintro e w10 ⟨rfl, hS10⟩
        clear hap
        go_wp2
        go_ret
        exact ⟨rfl, hS10⟩
  by_cases hq0 : q = 0
  · have hqn : ((q : Int) == 0) = true := by simpa using hq0
    have HQ0 := Lib.hid hq0
    clear hq0
    go_enter Try.func4, Try.ntmps4
    go_wp2_with (first
      | (go_at_call 9; refine (walbegun_any _).mono ?_; rintro e w1 ⟨rfl, hs1⟩)
      | (go_at_call 10; refine (HSUM.out _ hs1).mono ?_; rintro e w' ⟨rfl, rfl⟩)
      | (go_at_call 12; refine stopAt ?_))
    unfold Hid
    have hX1 : By (w1.alloc (.cells #[.int .u8 1, .int .u8 2, .int .u8 3] 5)) (fun _ => True) (.slice (some ⟨w1.heap.size, 0, none⟩) 3 3) (tailL true) := ((Row.new w1 5 (cs8 [1, 2, 3])).by_ (by simp [maxLen])).mono fun _ _ _ => trivial
    have hsn : Same (fun _ => True) w (w1.alloc (.cells #[.int .u8 1, .int .u8 2, .int .u8 3] 5)) := hs1.trans ((Same.refl _ _).alloc _)
    refine (dnew_any _).mono ?_
    rintro e w2 ⟨g, r, rfl, hg, hr, hD0, hs2⟩
    have hX := hX1.keep hs2
    have HS2 := Lib.hid (hsn.trans hs2)
    have hwh := whole_any G (.slice A N ca) (.slice (some ⟨w1.heap.size, 0, none⟩) 3 3) recs (tailL true) _ _ w2 hG64.out (HV2.out.keep (HS2.out.mono fun _ _ _ => trivial)) hX (by rw [← HN.out]; omega) (by have := HFL.out; rw [fileW_len, ← HN.out]; omega) (by decide)
    have hgw : w.heap.size ≤ g ∧ w.heap.size ≤ r := by have := hsn.size; omega
    clear hX1 hX hsn hs2 hs1 hg hr
    go_wp2_with (go_at_call 14; refine stopAt ?_)
    unfold Hid
    refine hwh.mono ?_
    rintro e w3 ⟨u3, rfl, hu3, hs3⟩
    have hbl : (fileW G recs ++ tailL true).length ≤ 1080 := by
      have := HFL.out
      have e : (tailL true).length ≤ 3 := by decide
      rw [List.length_append, fileW_len, ← HN.out]; omega
    have hap := dappend_any g r _ _ DiskM.new 0 u3 (fileW G recs ++ tailL true) w3 (hD0.keepAll hs3) ⟨by decide, by decide⟩ hu3.by_ (by show 0 + _ ≤ _; omega)
    rw [hand_eq] at hap
    obtain ⟨B, hB⟩ : ∃ B, B = fileW G recs ++ tailL true := ⟨_, rfl⟩
    have hlk : LookF B (some ⟨G, recs, true⟩) := by rw [hB]; exact look_hand hgok.out recs HSM.out true
    rw [← hB] at hu3 hap hbl
    obtain ⟨A3, c3, rfl, -, -⟩ := hu3.form
    have HB := Lib.hid hB
    have HLK := Lib.hid hlk
    have HS3 := Lib.hid (HS2.out.trans hs3)
    clear hu3 hwh hB hlk hD0 hs3
    go_wp2_with (go_at_call 13; refine stopAt ?_)
    unfold Hid
    refine hap.mono ?_
    rintro e w4 ⟨rfl, ⟨F4, hF4, hD4⟩, hs4⟩
    have HS4 : Hid (Same (fun _ => True) w w4) := Lib.hid (HS3.out.trans' hs4 fun k hk _ => by constructor <;> omega)
    have hop := wopen_any g r F4 (handD B) (some ⟨G, recs, true⟩) none w4 hD4 ⟨⟨Int.le_refl _, show (-1 : Int) ≤ _ by decide⟩, show 1 < _ by decide⟩ (show 1 + 3 < _ by decide) HLK.out look_nil (by show B.length ≤ _; omega) (Nat.zero_le _)
    clear hap hs4 hF4
    have hO5 := last_full (g := G) (by have := HG.out; have := HQ0.out; omega) recs
    rw [← HB.out] at hO5
    rw [hO5] at hop
    go_wp2_with (go_at_call 15; refine stopAt ?_)
    unfold Hid
    refine hop.mono ?_
    intro e w5 hpost
    obtain ⟨A5, c5, F5, rfl, -, -, hs5⟩ := hpost.none_
    have eqn : ∀ (W : World), (binOp .eql 34 (.pointer none) (.pointer none)).run Try.prog W = .ok (.bool true) W := fun W => by kernel_rfl
    have HS5 : Hid (Same (fun _ => True) w w5) := Lib.hid (HS4.out.trans' hs5 fun k hk _ => by constructor <;> omega)
    clear hop hpost hs5 hO5 hD4
    go_wp2
    go_ret
    exact ⟨rfl, HS5.out⟩
  · obtain ⟨Lf, hLf⟩ : ∃ Lf, q = Lf + 1 := ⟨q - 1, by omega⟩
    have hql : (q : Int) - 1 = (Lf : Int) := by omega
    have hqn : ((q : Int) == 0) = false := by simpa using hq0
    have HLf := Lib.hid hLf
    clear hLf hq0
    go_enter Try.func4, Try.ntmps4
    go_wp2_with (first
      | (go_at_call 9; refine (walbegun_any _).mono ?_; rintro e w1 ⟨rfl, hs1⟩)
      | (go_at_call 10; refine (HSUM.out _ hs1).mono ?_; rintro e w' ⟨rfl, rfl⟩)
      | (go_at_call 12; refine stopAt ?_))
    unfold Hid
    have hX1 : By (w1.alloc (.cells #[.int .u8 1, .int .u8 2, .int .u8 3] 5)) (fun _ => True) (.slice (some ⟨w1.heap.size, 0, none⟩) 3 3) (tailL true) := ((Row.new w1 5 (cs8 [1, 2, 3])).by_ (by simp [maxLen])).mono fun _ _ _ => trivial
    have hsn : Same (fun _ => True) w (w1.alloc (.cells #[.int .u8 1, .int .u8 2, .int .u8 3] 5)) := hs1.trans ((Same.refl _ _).alloc _)
    refine (dnew_any _).mono ?_
    rintro e w2 ⟨g, r, rfl, hg, hr, hD0, hs2⟩
    have hX := hX1.keep hs2
    have HS2 := Lib.hid (hsn.trans hs2)
    have hwh := whole_any G (.slice A N ca) (.slice (some ⟨w1.heap.size, 0, none⟩) 3 3) recs (tailL true) _ _ w2 hG64.out (HV2.out.keep (HS2.out.mono fun _ _ _ => trivial)) hX (by rw [← HN.out]; omega) (by have := HFL.out; rw [fileW_len, ← HN.out]; omega) (by decide)
    have hgw : w.heap.size ≤ g ∧ w.heap.size ≤ r := by have := hsn.size; omega
    clear hX1 hX hsn hs2 hs1 hg hr
    go_wp2_with (go_at_call 14; refine stopAt ?_)
    unfold Hid
    refine hwh.mono ?_
    rintro e w3 ⟨u3, rfl, hu3, hs3⟩
    have hbl : (fileW G recs ++ tailL true).length ≤ 1080 := by
      have := HFL.out
      have e : (tailL true).length ≤ 3 := by decide
      rw [List.length_append, fileW_len, ← HN.out]; omega
    have hap := dappend_any g r _ _ DiskM.new 0 u3 (fileW G recs ++ tailL true) w3 (hD0.keepAll hs3) ⟨by decide, by decide⟩ hu3.by_ (by show 0 + _ ≤ _; omega)
    rw [hand_eq] at hap
    obtain ⟨B, hB⟩ : ∃ B, B = fileW G recs ++ tailL true := ⟨_, rfl⟩
    have hlk : LookF B (some ⟨G, recs, true⟩) := by rw [hB]; exact look_hand hgok.out recs HSM.out true
    rw [← hB] at hu3 hap hbl
    obtain ⟨A3, c3, rfl, -, -⟩ := hu3.form
    have HB := Lib.hid hB
    have HLK := Lib.hid hlk
    have HS3 := Lib.hid (HS2.out.trans hs3)
    clear hu3 hwh hB hlk hD0 hs3
    go_wp2_with (go_at_call 13; refine stopAt ?_)
    unfold Hid
    refine hap.mono ?_
    rintro e w4 ⟨rfl, ⟨F4, hF4, hD4⟩, hs4⟩
    have HS4 : Hid (Same (fun _ => True) w w4) := Lib.hid (HS3.out.trans' hs4 fun k hk _ => by constructor <;> omega)
    have hop := wopen_any g r F4 (handD B) (some ⟨G, recs, true⟩) none w4 hD4 ⟨⟨Int.le_refl _, show (-1 : Int) ≤ _ by decide⟩, show 1 < _ by decide⟩ (show 1 + 3 < _ by decide) HLK.out look_nil (by show B.length ≤ _; omega) (Nat.zero_le _)
    clear hap hs4 hF4
    obtain ⟨d5, l5, hO5, hJ5⟩ := last_spoilt (n := 2000) (g := G) (by have := HG.out; have := HLf.out; omega) recs HSM.out (by have := HFL.out; rw [← HN.out]; omega)
    rw [← HB.out] at hO5
    rw [hO5] at hop
    have HJ := Lib.hid hJ5
    have hLb : Lf ≤ 2 := by have := HLf.out; omega
    have HGL : Hid (G + 1 + Lf + 1 = 4611686018427387904) := Lib.hid (by have := HG.out; have := HLf.out; omega)
    clear hO5 hJ5
    go_wp2_with (go_at_call 15; refine stopAt ?_)
    unfold Hid
    refine hop.mono ?_
    intro e w5 hpost
    obtain ⟨A5, c5, F5, rfl, hF5, hby5, hL5, hS5⟩ := hpost.some
    obtain ⟨p, hp⟩ : ∃ p, p = w4.heap.size := ⟨_, rfl⟩
    rw [← hp] at hL5 hby5 ⊢
    have hBB : w.heap.size ≤ p ∧ w.heap.size ≤ g ∧ w.heap.size ≤ r := by have := HS4.out.size; omega
    have HI := Lib.hid (show LastIn w p g r recs 4 (G + 1) w5 from ⟨_, _, F5, HJ.out, hL5, HS4.out.trans' hS5 fun k hk _ => by constructor <;> omega⟩)
    have HBY5 := Lib.hid hby5
    have hT := texts_any _ recs _ w5 (HV2.out.keep (HI.out.same.mono fun _ _ _ => trivial)) (by rw [← HN.out]; omega)
    clear hpost hF5 hL5 hS5 hby5 hop hD4 hp
    rw [← HN.out]
    go_wp2_with (go_at_call 17; refine stopAt ?_)
    unfold Hid
    refine hT.mono ?_
    rintro e w6 ⟨u6, rfl, hu6, hs6⟩
    have hK := alike_any _ u6 recs recs _ _ w6 (HBY5.out.keep (hs6.mono fun _ _ _ => trivial)) hu6.rd (by rw [← HN.out]; omega) (by rw [← HN.out]; omega)
    obtain ⟨A6, c6, rfl, -, -⟩ := OwnS.form hu6
    rw [show decide (recs = recs) = true by simp] at hK
    rw [← HN.out] at hK ⊢
    have HS6 := Lib.hid hs6
    clear hT hu6 hs6
    go_wp2_with (go_at_call 16; refine stopAt ?_)
    unfold Hid
    refine hK.mono ?_
    rintro e w7 ⟨rfl, hs7⟩
    have HI7 : Hid (LastIn w p g r recs 4 (G + 1) w7) := Lib.hid (by
      obtain ⟨d, l, F, h1, h2, h3⟩ := HI.out
      have hh := HS6.out.trans hs7
      exact ⟨d, l, F, h1, h2.keepAll hh, h3.trans hh⟩)
    clear hK hs7
    go_wp2
    go_loopw [14] (fun i wr => ∃ k : Nat, k ≤ Lf ∧ i = .int .i64 k ∧ Hid (LastIn w p g r recs (4 + 3 * k) ((G + 1) + k) wr)) (fun i _ => Lf - (intOf i).toNat)
    case atStart => exact ⟨0, by omega, rfl, HI7⟩
    case round =>
      obtain ⟨k, hk, rfl, HK⟩ := hrel
      obtain ⟨wo, rfl⟩ : ∃ wo : World, wo = wr := ⟨_, rfl⟩
      clear HI7 HI HBY5 HS6
      have hLl : recs.length ≤ 10 := by rw [← HN.out]; omega
      have HLl := Lib.hid hLl
      clear hLl
      by_cases hkL : k < Lf
      · have hrw := LastIn.rew HK.out hBB HLl.out HFL.out (by omega) (by have := HGL.out; omega) (HV2.out.keep (HK.out.same.mono fun _ _ _ => trivial))
        go_wp2_with (go_at_call 21; refine stopAt ?_)
        unfold Hid
        refine hrw.mono ?_
        rintro e w8 ⟨rfl, hI8⟩
        clear hrw
        go_wp2
        go_roundw
        case rel => exact ⟨k + 1, by omega, by go_num, Lib.hid hI8⟩
        case measure => simp [intOf]; omega
      · obtain rfl : Lf = k := by omega
        have hfu := LastIn.full HK.out hBB HLl.out HFL.out (by omega) (by have := HGL.out; omega) (HV2.out.keep (HK.out.same.mono fun _ _ _ => trivial))
        go_wp2_with (go_at_call 21; refine stopAt ?_)
        unfold Hid
        refine hfu.mono ?_
        rintro e w8 ⟨rfl, hI8⟩
        have hcn := hI8.count
        rw [← HN.out] at hcn
        clear hfu hI8
        go_wp2_with (go_at_call 22; refine stopAt ?_)
        unfold Hid
        refine hcn.mono ?_
        rintro e w9 ⟨rfl, hI9⟩
        have hap := hI9.app hBB HLl.out HFL.out (by omega)
        clear hcn hI9
        go_wp2_with (go_at_call 18; refine stopAt ?_)
        unfold Hid
        refine hap.mono ?_
        rintro e w10 ⟨rfl, hS10⟩
        clear hap
        go_wp2
        go_ret
        exact ⟨rfl, hS10⟩
end Go.Proofs.Ytpjinngngbifoaa
