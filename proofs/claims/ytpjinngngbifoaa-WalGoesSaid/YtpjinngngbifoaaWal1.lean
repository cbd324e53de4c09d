/-
  WalGoes: for every records and every turns, what is appended and synced, through rewrites of itself, is all there.
-/
import Derived.Test.YtpjinngngbifoaaWalGo
import Derived.Test.YtpjinngngbifoaaWalT
import Derived.Test.YtpjinngngbifoaaCod
set_option linter.unusedSimpArgs false
set_option linter.unusedVariables false
namespace Go.Proofs.Ytpjinngngbifoaa
open Go.RowKit Go.ChangeShapes Go.WideShapes Go.ChangeAt

def cBo : Codec Try.prog 4 Bool := cBool Try.underlying4 (by kernel_rfl)
theorem cBo_cells : Try.prog.cellsOf 4 = 1 := by kernel_rfl
theorem bools_at {w : World} {S : Nat → Prop} {A : Option Addr} {n c i : Nat} {ts : List Bool} (h : SlOf cBo w S (.slice A n c) ts) (hi : i < ts.length) : ∃ ad, A = some ad ∧ w.cell? (ad.add i) = some (.bool ts[i]) := by
  obtain ⟨A', c', e, h1, h2, h3⟩ := h
  injection e with e1 e2 e3
  subst e1
  obtain ⟨ad, us, rfl, -, hc, hu⟩ := h3 i _ (List.getElem?_eq_getElem hi)
  have hu : us = [.bool ts[i]] := hu
  subst hu
  have := hc 0 _ rfl
  rw [cBo_cells] at this
  simp only [Nat.mul_one, Nat.add_zero] at this
  exact ⟨ad, rfl, this⟩
set_option maxRecDepth 100000 in
theorem open_bools {H : Type} {enc : TypeId × Value → H} {W : World} {base : Nat} {v : Value} {d : DataW H} {ps : List MemPlace} (hval : Value.okWide Try.prog W .any base 55 v)
    (h : DataW.Trod enc Try.prog W 0 (fun _ => true) true 55 v d ps) : ∃ ts, SlOf cBo W (· < W.heap.size) v ts := by
  obtain ⟨a0, len0, cap0, rfl⟩ := okWide_slice Try.underlying55 hval
  obtain ⟨fuel, hf⟩ := h
  obtain ⟨v, l, hv, hby⟩ := SlOf.opens (C := cBo) Try.underlying55 (by rw [cBo_cells]; omega) hf
  simp [Value.cells] at hv
  subst hv
  exact ⟨l, hby⟩
theorem ByL.take {w : World} {S : Nat → Prop} {A : Option Addr} {n c : Nat} {l : List (List UInt8)} (h : ByL w S (.slice A n c) l) {k : Nat} (hk : k ≤ l.length) : ByL w S (.slice A k c) (l.take k) := by
  obtain ⟨A', c', vs, e, h1, h2, h3, h4⟩ := h
  injection e with e1 e2 e3
  subst e1 e3
  have hl : (l.take k).length = k := by rw [List.length_take]; omega
  refine ⟨A, c, vs.take k, by rw [hl], by omega, h2, ?_, fun i u x a b => ?_⟩
  · rw [hl]
    have := h3.take hk
    rwa [Nat.mul_one] at this
  · rw [List.getElem?_take] at a b
    split at a
    · rename_i hi
      rw [if_pos hi] at b
      exact h4 i u x a b
    · cases a
/-- What a round of the loop finds. -/
def GoIn (w : World) (p g r : Nat) (recs : List (List UInt8)) (i s gn : Nat) (wr : World) : Prop :=
  ∃ d l F, LogI (recs.take i) s gn 6600 d l ∧ LogAt wr p g r F d l ∧ Same (fun _ => True) w wr
theorem GoIn.app {w : World} {p g r : Nat} {recs : List (List UInt8)} {i s gn : Nat} {wr : World} (h : GoIn w p g r recs i s gn wr) (hB : w.heap.size ≤ p ∧ w.heap.size ≤ g ∧ w.heap.size ≤ r) (hi : i < recs.length) (hl : recs.length ≤ 60) (hf : recs.flatten.length ≤ 6000) (hs : s ≤ 1000) (hgn : gn ≤ 1000) {v : Value} {S : Nat → Prop} (hv : By wr S v recs[i]) :
    Calls Try.prog 18 #[ptr p, v] wr fun e w' => e = .returned (.int .i64 0) ∧ GoIn w p g r recs (i + 1) (s + 1) gn w' ∧ Same (fun _ => True) w w' := by
  obtain ⟨d, l, F, hI, hL, hS⟩ := h
  have hr := mem_flat_le (List.getElem_mem hi)
  have e1 : (recs.take i).length = i := by rw [List.length_take]; omega
  have e3 : (recs.take (i + 1)).flatten.length = (recs.take i).flatten.length + recs[i].length := by rw [List.take_succ_eq_append_getElem hi, List.flatten_append, List.length_append]; simp
  have e4 : (recs.take (i + 1)).flatten.length ≤ recs.flatten.length := flat_take_le _ _
  obtain ⟨d', l', ha, hI', -⟩ := hI.app recs[i] (by omega) (by rw [e1]; omega)
  have hlen := hI.size
  rw [e1] at hlen
  have hc := wappend_any p g r F S d l v recs[i] wr hL (hI.fit (by omega)) hv (by omega) (by omega) (hI.wfit (by omega) (by omega))
  rw [ha] at hc
  refine hc.mono ?_
  rintro e w' ⟨rfl, ⟨F', hF', hL'⟩, hS'⟩
  have hS2 : Same (fun _ => True) w w' := hS.trans' hS' fun k hk _ => ⟨by omega, by omega, by omega⟩
  refine ⟨rfl, ⟨d', l', F', ?_, hL', hS2⟩, hS2⟩
  rw [List.take_succ_eq_append_getElem hi]
  exact hI'
theorem GoIn.rew {w : World} {p g r : Nat} {recs : List (List UInt8)} {i s gn : Nat} {wr : World} (h : GoIn w p g r recs i s gn wr) (hB : w.heap.size ≤ p ∧ w.heap.size ≤ g ∧ w.heap.size ≤ r) (hi : i ≤ recs.length) (hl : recs.length ≤ 60) (hf : recs.flatten.length ≤ 6000) (hs : s ≤ 1000) (hgn : gn ≤ 1000) {v : Value} {S : Nat → Prop} (hv : ByL wr S v (recs.take i)) :
    Calls Try.prog 21 #[ptr p, v] wr fun e w' => e = .returned (.int .i64 0) ∧ GoIn w p g r recs i (s + 3) (gn + 1) w' ∧ Same (fun _ => True) w w' := by
  obtain ⟨d, l, F, hI, hL, hS⟩ := h
  have e1 : (recs.take i).length = i := by rw [List.length_take]; omega
  have e4 : (recs.take i).flatten.length ≤ recs.flatten.length := flat_take_le _ _
  obtain ⟨d', l', ha, hI', -⟩ := hI.rew (recs.take i) hI.small (by rw [e1]; omega) (by omega)
  have hst := hI.steps
  have hc := wrewrite_any p g r F S d l v (recs.take i) wr hL (hI.fit (by omega)) (by omega) hv (by omega) (Lib.hid fun x hx => by have := mem_flat_le hx; omega) (by rw [fileW_len, e1]; omega) (hI.wfit (by omega) (by omega))
  rw [ha] at hc
  refine hc.mono ?_
  rintro e w' ⟨rfl, ⟨F', hF', hL'⟩, hS'⟩
  have hS2 : Same (fun _ => True) w w' := hS.trans' hS' fun k hk _ => ⟨by omega, by omega, by omega⟩
  exact ⟨rfl, ⟨d', l', F', hI', hL', hS2⟩, hS2⟩
theorem GoIn.mono {w : World} {p g r : Nat} {recs : List (List UInt8)} {i s s' gn gn' : Nat} {wr : World} (h : GoIn w p g r recs i s gn wr) (hs : s ≤ s') (hg : gn ≤ gn') : GoIn w p g r recs i s' gn' wr := by
  obtain ⟨d, l, F, h1, h2, h3⟩ := h
  exact ⟨d, l, F, h1.mono hs hg (Nat.le_refl _), h2, h3⟩
theorem LogI.live {recs : List (List UInt8)} {s g n : Nat} {d : DiskM} {l : WalM} (h : LogI recs s g n d l) : (if l.over d = true then 0 else l.count : Nat) = recs.length := by
  rw [if_neg (by simp [h.alive.over]), h.count]
set_option maxRecDepth 100000 in
set_option maxHeartbeats 1000000 in
theorem walgoes_walk (v vt : Value) (recs : List (List UInt8)) (ts : List Bool) (w : World) (hv : ByL w (· < w.heap.size) v recs) (ht : SlOf cBo w (· < w.heap.size) vt ts) :
    Calls Try.prog 6 #[v, vt] w (TrueP w) := by
  obtain ⟨A, ca, vs, rfl, hca, hma, -, -⟩ := id hv
  obtain ⟨B, cb, rfl, hcb, hmb, -⟩ := id ht
  have HV := Lib.hid hv
  have HT := Lib.hid ht
  have hsum := fun W (h : Same (fun _ => True) w W) => sum_any _ recs 6000 _ W (hv.keep (h.mono fun _ _ _ => trivial)) (by omega) (by omega)
  unfold maxLen at hma hmb
  clear hv ht
  by_cases hlong : 60 < recs.length
  · clear hsum
    go_enter Try.func6, Try.ntmps6
    go_wp2_with (go_at_call 9; refine (walbegun_any _).mono ?_; rintro e w1 ⟨rfl, hs1⟩)
    go_ret
    exact ⟨rfl, hs1⟩
  have hl60 : recs.length ≤ 60 := by omega
  clear hlong
  by_cases hlong2 : 60 < ts.length
  · clear hsum
    go_enter Try.func6, Try.ntmps6
    go_wp2_with (go_at_call 9; refine (walbegun_any _).mono ?_; rintro e w1 ⟨rfl, hs1⟩)
    go_ret
    exact ⟨rfl, hs1⟩
  have ht60 : ts.length ≤ 60 := by omega
  clear hlong2
  have HSUM := Lib.hid hsum
  clear hsum
  by_cases h2 : 6000 < sumF 6000 recs
  · go_enter Try.func6, Try.ntmps6
    go_wp2_with (first
      | (go_at_call 9; refine (walbegun_any _).mono ?_; rintro e w1 ⟨rfl, hs1⟩)
      | (go_at_call 10; refine (HSUM.out _ hs1).mono ?_; rintro e w' ⟨rfl, rfl⟩))
    go_ret
    exact ⟨rfl, hs1⟩
  have h3 := sumFrom_small (most := 6000) (by omega) recs 0 (by omega) (by unfold sumF at h2; omega)
  have hflat : recs.flatten.length ≤ 6000 := by have := h3.1; omega
  have hsI : sumF 6000 recs ≤ 6000 := by omega
  clear h2 h3
  obtain ⟨d0, l0, hop0, hI0⟩ := LogI.new
  have HOP := Lib.hid hop0
  have HI0 := Lib.hid hI0
  clear hop0 hI0
  obtain ⟨N, hN⟩ : ∃ N, N = recs.length := ⟨_, rfl⟩
  obtain ⟨M, hM⟩ : ∃ M, M = ts.length := ⟨_, rfl⟩
  have hsum := HSUM.out
  rw [← hN] at hca hl60 hsum ⊢
  have HSUM := Lib.hid hsum
  clear hsum
  rw [← hM] at hcb ht60 ⊢
  have HN := Lib.hid hN
  have HM := Lib.hid hM
  clear hN hM
  have HFL := Lib.hid hflat
  clear hflat
  go_enter Try.func6, Try.ntmps6
  go_wp2_with (first
    | (go_at_call 9; refine (walbegun_any _).mono ?_; rintro e w1 ⟨rfl, hs1⟩)
    | (go_at_call 10; refine (HSUM.out _ hs1).mono ?_; rintro e w' ⟨rfl, rfl⟩)
    | (go_at_call 12; refine (dnew_any _).mono ?_; rintro e w2 ⟨g, r, rfl, hg, hr, hD0, hs2⟩))
  have hopn := wopen_any g r _ DiskM.new none none _ hD0 ⟨by decide, by decide⟩ (by decide) look_nil look_nil (by decide) (by decide)
  rw [HOP.out] at hopn
  go_wp2_with (go_at_call 15; refine stopAt ?_)
  unfold Hid
  refine hopn.mono ?_
  intro e w3 hpost
  obtain ⟨Ar, cr, F1, rfl, hF1, hby1, hL1, hs3⟩ := hpost.some
  obtain ⟨p, hp⟩ : ∃ p, p = w2.heap.size := ⟨_, rfl⟩
  rw [← hp] at hL1 ⊢
  have hB : w.heap.size ≤ p ∧ w.heap.size ≤ g ∧ w.heap.size ≤ r := by
    have := hs1.size
    have := hs2.size
    omega
  have hst : Hid (GoIn w p g r recs 0 3 1 w3) := Lib.hid ⟨d0, l0, F1, by simpa using HI0.out.mono (Nat.le_refl _) (Nat.le_refl _) (by omega), hL1, (hs1.trans hs2).trans' hs3 fun k hk _ => by constructor <;> omega⟩
  clear hpost hopn hby1 hF1 hL1 hs1 hs2 hs3 hD0 HSUM hsI hp hg hr
  go_wp2
  go_loopw [9] (fun i wr => ∃ k : Nat, k ≤ N ∧ i = .int .i64 k ∧ Hid (GoIn w p g r recs k (4 * k + 3) (k + 1) wr)) (fun i _ => N - (intOf i).toNat)
  case atStart => exact ⟨0, by omega, rfl, hst⟩
  case round =>
    obtain ⟨k, hk, rfl, HI⟩ := hrel
    obtain ⟨wo, rfl⟩ : ∃ wo : World, wo = wr := ⟨_, rfl⟩
    clear hst
    by_cases hkN : k < N
    · have hkr : k < recs.length := by rw [← HN.out]; exact hkN
      have hS0 : Hid (Same (fun _ => True) w wo) := Lib.hid (by obtain ⟨d, l, F, -, -, h⟩ := HI.out; exact h)
      obtain ⟨ad, Ak, ck, rfl, -, hck, hbr⟩ := (HV.out.keep (hS0.out.mono fun _ _ _ => trivial)).at_ hkr
      have happ := GoIn.app HI.out hB hkr (by rw [← HN.out]; exact hl60) HFL.out (by omega) (by omega) hbr
      obtain ⟨L, hL⟩ : ∃ L, L = recs[k].length := ⟨_, rfl⟩
      rw [← hL] at hck happ
      have HAPP := Lib.hid happ
      clear hL hbr happ
      have hk1 : k + 1 ≤ N := hkN
      by_cases hkm : k < M
      case neg =>
        have hkd : decide (k < M) = false := decide_eq_false hkm
        clear hkm
        go_wp2_with (go_at_call 18; refine HAPP.out.mono ?_; rintro e w4 ⟨rfl, hI4, hS4⟩)
        go_roundw
        case rel => exact ⟨k + 1, by omega, by go_num, Lib.hid (hI4.mono (by omega) (by omega))⟩
        case measure => simp [intOf]; omega
      have hkt : k < ts.length := by rw [← HM.out]; exact hkm
      obtain ⟨adt, rfl, hct⟩ := bools_at HT.out hkt
      have HCT : Hid (∀ W, Same (fun _ => True) w W → W.cell? (adt.add k) = some (.bool ts[k])) := Lib.hid fun W h => h.cell trivial hct
      clear hct
      generalize ts[k] = tk at HCT
      cases tk
      · go_wp2_with (go_at_call 18; refine HAPP.out.mono ?_; rintro e w4 ⟨rfl, hI4, hS4⟩; have hc4 := HCT.out w4 hS4)
        go_roundw
        case rel => exact ⟨k + 1, by omega, by go_num, Lib.hid (hI4.mono (by omega) (by omega))⟩
        case measure => simp [intOf]; omega
      · go_wp2_with (go_at_call 18; refine HAPP.out.mono ?_; rintro e w4 ⟨rfl, hI4, hS4⟩; have hc4 := HCT.out w4 hS4)
        have hkr1 : k + 1 ≤ recs.length := by rw [← HN.out]; exact hk1
        have hrw := GoIn.rew hI4 hB hkr1 (by rw [← HN.out]; exact hl60) HFL.out (by omega) (by omega) ((HV.out.keep (hS4.mono fun _ _ _ => trivial)).take hkr1)
        go_wp2_with (go_at_call 21; refine stopAt ?_)
        unfold Hid
        refine hrw.mono ?_
        rintro e w5 ⟨rfl, hI5, hS5⟩
        clear hrw
        go_wp2
        go_roundw
        case rel => exact ⟨k + 1, by omega, by go_num, Lib.hid (hI5.mono (by omega) (by omega))⟩
        case measure => simp [intOf]; omega
    · obtain rfl : N = k := by omega
      clear hk hkN
      obtain ⟨d, l, F, hI, hL, hS⟩ := HI.out
      rw [List.take_of_length_le (by rw [HN.out]; exact Nat.le_refl _)] at hI
      obtain ⟨d2, hsy, hI2, hls2, hok2⟩ := hI.syn
      have hsyn := wsync_any p g r F d l wo hL (hI.fit (by omega))
      rw [hsy] at hsyn
      have HI2 := Lib.hid hI2
      have HLS2 := Lib.hid hls2
      have HOK2 := Lib.hid hok2
      have HSo := Lib.hid hS
      have hov2 : l.over d2 = false := hI2.alive.over
      have HLI := Lib.hid hI2.live
      have hcz := hI2.lives
      have hlf := Lib.hid (hI2.wfit (by omega) (by omega))
      clear hI hL hS hsy hI2 hls2 hok2
      clear hov2 hcz
      go_wp2_with (go_at_call 19; refine hsyn.mono ?_; rintro e w4 ⟨rfl, ⟨F2, hF2, hL2⟩, hS4⟩)
      clear hsyn
      have hcn := wcount_any p g r F2 d2 l w4 hL2
      rw [HLI.out, ← HN.out] at hcn
      have HL2 := Lib.hid hL2
      have HS4 : Hid (Same (fun _ => True) w w4) := Lib.hid (HSo.out.trans' hS4 fun k hk _ => ⟨by omega, by omega, by omega⟩)
      clear hL2 hS4 hF2
      go_wp2_with (go_at_call 22; refine stopAt ?_)
      unfold Hid
      refine hcn.mono ?_
      rintro e w5 ⟨rfl, hS5⟩
      have HL5 := Lib.hid (HL2.out.keepAll hS5)
      have HS5 := Lib.hid (HS4.out.trans hS5)
      clear hcn hS5
      have hlen2 := HI2.out.len
      have hpow := dpower_any g r F2 (fun _ => False) d2 [] (.slice none 0 0) w5 HL5.out.disk HOK2.out (ints_nil _ _) (fun k h => h.elim) (by have h0 := hlen2.f0; have h1 := hlen2.f1; omega) (by rw [HI2.out.lives]; omega)
      go_wp2_with (go_at_call 20; refine stopAt ?_)
      unfold Hid
      refine hpow.mono ?_
      rintro e w6 ⟨rfl, hD6, hS6⟩
      clear hpow
      obtain ⟨m0, hm0⟩ := look_total (d2.power []).f0.b
      obtain ⟨m1, hm1⟩ := look_total (d2.power []).f1.b
      obtain ⟨d3, l3, hop3, hO3, hst3, hlv3, hln3, har3⟩ := HI2.out.again HLS2.out (by omega) (by omega) [] hm0 hm1
      have hlp := hlen2.power []
      have hopn := wopen_any g r _ (d2.power []) m0 m1 _ hD6 ⟨⟨Int.le_refl _, show (-1 : Int) ≤ _ by decide⟩, by show d2.steps < _; have := HI2.out.steps; omega⟩ (by show d2.steps + 3 < _; have := HI2.out.steps; omega) hm0 hm1 (by have := hlp.f0; omega) (by have := hlp.f1; omega)
      rw [hop3] at hopn
      have HW6 := Lib.hid (HL5.out.wal.keep hS6 ⟨HL5.out.pg, HL5.out.pr⟩)
      have hpz := Row.lt HW6.out
      have HS6 : Hid (Same (fun _ => True) w w6) := Lib.hid (HS5.out.trans' hS6 fun k hk _ => by constructor <;> omega)
      have HO3 := Lib.hid hO3
      clear hD6 hS6 hop3 hO3 hlen2 hlp hm0 hm1
      go_wp2_with (go_at_call 15; refine stopAt ?_)
      unfold Hid
      refine hopn.mono ?_
      intro e w7 hpost
      obtain ⟨A7, c7, F7, rfl, hF7, hby7, hL7, hS7⟩ := hpost.some
      have HS7 : Hid (Same (fun _ => True) w w7) := Lib.hid (HS6.out.trans' hS7 fun k hk _ => by constructor <;> omega)
      have hL7' : LogAt w7 p g r F7 d3 l := ⟨hL7.disk, HW6.out.keep hS7 ⟨HL5.out.pg, HL5.out.pr⟩, fun h => by
        rcases hF7 _ h with h | h
        · exact HL5.out.pF h
        · omega, HL5.out.pg, HL5.out.pr⟩
      have hov3 : (if l.over d3 = true then 0 else l.count : Nat) = 0 := if_pos (by
        unfold WalM.over
        have h1 := HI2.out.alive.2.2.1
        have h2 := HI2.out.lives
        have : d3.lives ≠ l.lives := by rw [hlv3, ← h1, h2]; omega
        simp [this])
      have hov4 : (if l.over d3 = true then 0 else l.bytes : Nat) = 0 := if_pos (by
        unfold WalM.over
        have h1 := HI2.out.alive.2.2.1
        have h2 := HI2.out.lives
        have : d3.lives ≠ l.lives := by rw [hlv3, ← h1, h2]; omega
        simp [this])
      have hov5 : (if l3.over d3 = true then 0 else l3.count : Nat) = recs.length := by rw [if_neg (by simp [HO3.out.alive.over]), HO3.out.count]
      have HV7 := Lib.hid (HV.out.keep (HS7.out.mono fun _ _ _ => trivial))
      have hC1 := fun W (hW : Same (fun _ => True) w7 W) => wcount_any w6.heap.size g r F7 d3 l3 W (hL7.keepAll hW)
      have hC2 := fun W (hW : Same (fun _ => True) w7 W) => wcount_any p g r F7 d3 l W (hL7'.keepAll hW)
      have hC3 := fun W (hW : Same (fun _ => True) w7 W) => wbytes_any p g r F7 d3 l W (hL7'.keepAll hW)
      have hT := fun W (hW : Same (fun _ => True) w7 W) => texts_any _ recs _ W (HV7.out.keep (hW.mono fun _ _ _ => trivial)) (by rw [← HN.out]; omega)
      have hK := fun W (hW : Same (fun _ => True) w7 W) u (hu : OwnS W w7.heap.size u recs) => alike_any _ u recs recs _ _ W (hby7.keep (hW.mono fun _ _ _ => trivial)) hu.rd (by rw [← HN.out]; omega) (by rw [← HN.out]; omega)
      rw [hov3] at hC2
      rw [hov4] at hC3
      rw [hov5, ← HN.out] at hC1
      rw [← HN.out] at hT hK
      have e1 : decide (recs = recs) = true := by simp
      rw [e1] at hK
      have K1 := Lib.hid hC1
      have K2 := Lib.hid hC2
      have K3 := Lib.hid hC3
      have K4 := Lib.hid hT
      have K5 := Lib.hid hK
      rw [← HN.out]
      clear hC1 hC2 hC3 hT hK hov3 hov4 hov5 hL7' hL7 hby7 hS7 hF7 hpost hopn e1 hst3 hlv3 hln3 har3
      go_wp2_with (go_at_call 17; refine stopAt ?_)
      unfold Hid
      refine (K4.out _ (Same.refl _ _)).mono ?_
      rintro e w8 ⟨u8, rfl, hu8, hS8⟩
      obtain ⟨A8, c8, rfl, -, -⟩ := OwnS.form hu8
      have k5 := K5.out _ hS8 _ hu8
      rw [← HN.out] at k5 ⊢
      go_wp2_with (go_at_call 16; refine stopAt ?_)
      unfold Hid
      refine k5.mono ?_
      rintro e w9 ⟨rfl, hS9⟩
      have S9 := hS8.trans hS9
      have S9h := Lib.hid S9
      clear k5 hu8 hS8 hS9 S9
      go_wp2_with (go_at_call 22; refine stopAt ?_)
      unfold Hid
      refine (K1.out _ S9h.out).mono ?_
      rintro e w10 ⟨rfl, hS10⟩
      have S10 := Lib.hid (S9h.out.trans hS10)
      clear hS10
      go_wp2_with (go_at_call 22; refine stopAt ?_)
      unfold Hid
      refine (K2.out _ S10.out).mono ?_
      rintro e w11 ⟨rfl, hS11⟩
      have S11 := Lib.hid (S10.out.trans hS11)
      clear hS11
      go_wp2_with (go_at_call 27; refine stopAt ?_)
      unfold Hid
      refine (K3.out _ S11.out).mono ?_
      rintro e w12 ⟨rfl, hS12⟩
      have S12 := Lib.hid (S11.out.trans hS12)
      clear hS12
      go_wp2
      go_ret
      exact ⟨rfl, HS7.out.trans S12.out⟩
end Go.Proofs.Ytpjinngngbifoaa
