/-
  Words, plain models, laws and walks that the claims of this layer share (joined by shake.py). No condition.
-/
import Derived.Deep.CutRange
import Derived.Test.YtpjinngngbifoaaU1
import Derived.Test.YtpjinngngbifoaaU2
import Derived.Test.YtpjinngngbifoaaU3
import Derived.Test.YtpjinngngbifoaaU4
import Derived.Test.YtpjinngngbifoaaU5
import Derived.Test.YtpjinngngbifoaaU6
import Derived.Test.YtpjinngngbifoaaU7
import Derived.Test.YtpjinngngbifoaaU8
import Derived.Test.YtpjinngngbifoaaU9
import Derived.Test.YtpjinngngbifoaaU10
import Derived.Test.YtpjinngngbifoaaU11
import Derived.Test.YtpjinngngbifoaaU12
import Derived.Test.YtpjinngngbifoaaU13
import Derived.Test.YtpjinngngbifoaaU14
set_option linter.unusedSimpArgs false
set_option linter.unusedVariables false
namespace Go.Proofs.Ytpjinngngbifoaa
open Go.RowKit
def WalM.other (l : WalM) : Int := if l.f = 0 then 1 else 0
theorem WalM.other_may (l : WalM) : l.other = 0 ∨ l.other = 1 := by unfold WalM.other; split <;> simp
def rewriteW (d : DiskM) (l : WalM) (rs : List (List UInt8)) : Int × DiskM × WalM :=
  if l.over d = true then (6, d, l) else if 4611686018427387904 ≤ l.gen + 1 then (8, d, l) else
  match d.clear l.other with
  | (x1, d1) => if x1 ≠ 0 then (x1, d1, l.fails x1) else
  match d1.append l.other (fileW (l.gen + 1) rs) with
  | (x2, d2) => if x2 ≠ 0 then (x2, d2, l.fails x2) else
  match d2.sync l.other with
  | (x3, d3) => if x3 ≠ 0 then (x3, d3, l.fails x3) else
  (0, d3, { l with f := l.other, gen := l.gen + 1, count := rs.length, bytes := (fileW (l.gen + 1) rs).length })
theorem DiskM.step_fit {d : DiskM} (h : d.Fit) (f : Int) (x : FileM) (hs : d.steps + 1 < 1000000) : (d.step f x).2.Fit ∧ (d.step f x).2.steps ≤ d.steps + 1 ∧ (d.step f x).2.lives = d.lives := by
  obtain ⟨h1, h2⟩ := h
  unfold DiskM.step
  split
  · exact ⟨⟨h1, h2⟩, by simp, rfl⟩
  · have hA : -1 ≤ (if 0 < d.armed then d.armed - 1 else d.armed) ∧ (if 0 < d.armed then d.armed - 1 else d.armed) ≤ 9223372036854775807 := by split <;> omega
    refine ⟨⟨hA, ?_⟩, ?_, ?_⟩
    · simpa [DiskM.put] using hs
    · simp [DiskM.put]
    · unfold DiskM.put; split <;> rfl
theorem DiskM.clear_fit {d : DiskM} (h : d.Fit) (f : Int) (hs : d.steps + 1 < 1000000) : (d.clear f).2.Fit ∧ (d.clear f).2.steps ≤ d.steps + 1 ∧ (d.clear f).2.lives = d.lives := by
  unfold DiskM.clear; split
  · exact ⟨h, by simp, rfl⟩
  · exact DiskM.step_fit h f _ hs
theorem DiskM.append_fit {d : DiskM} (h : d.Fit) (f : Int) (b : List UInt8) (hs : d.steps + 1 < 1000000) : (d.append f b).2.Fit ∧ (d.append f b).2.steps ≤ d.steps + 1 ∧ (d.append f b).2.lives = d.lives := by
  unfold DiskM.append; split
  · exact ⟨h, by simp, rfl⟩
  · exact DiskM.step_fit h f _ hs
theorem DiskM.put_file (d : DiskM) {f : Int} (x : FileM) (h : f = 0 ∨ f = 1) : (d.put f x).file f = x := by
  rcases h with rfl | rfl <;> rfl
theorem DiskM.step_file {d : DiskM} {f : Int} {x : FileM} (hf : f = 0 ∨ f = 1) (h : (d.step f x).1 = 0) : (d.step f x).2.file f = x := by
  unfold DiskM.step at h ⊢
  split at h
  · simp at h
  · rename_i ha
    rw [if_neg ha]
    exact DiskM.put_file d x hf
theorem DiskM.clear_file {d : DiskM} {f : Int} (hf : f = 0 ∨ f = 1) (h : (d.clear f).1 = 0) : (d.clear f).2.file f = ⟨[], 0⟩ := by
  unfold DiskM.clear at h ⊢
  split at h
  · rename_i hm; exact absurd h hm
  · rename_i hm
    rw [if_neg hm]
    exact DiskM.step_file hf h
def CutAt (p g r : Nat) (F : Nat → Prop) (w : World) (d : DiskM) (x : Int) (l : WalM) (wx : World) : Prop :=
  ∃ F', (∀ k, F' k → F k ∨ w.heap.size ≤ k) ∧ LogAt wx p g r F' d (l.fails x) ∧ Same (Lk p g r) w wx
set_option maxRecDepth 100000 in
set_option maxHeartbeats 4000000 in
theorem wrewrite_any (p g r : Nat) (F S : Nat → Prop) (d : DiskM) (l : WalM) (v : Value) (rs : List (List UInt8)) (w : World) (h : LogAt w p g r F d l) (hd : d.Fit) (hds : d.steps + 3 < 1000000) (hv : ByL w S v rs) (hrl : rs.length ≤ 100000)
    (hr : Hid (∀ x ∈ rs, x.length ≤ 19000)) (hlen : (fileW 0 rs).length ≤ 1000000) (hl : l.Fit) :
    Calls Try.prog 21 #[ptr p, v] w (WPost p g r F w (rewriteW d l rs).1 (rewriteW d l rs).2.1 (rewriteW d l rs).2.2) := by
  have hn := fun w (h : WalAt w p g l) => wnone_any p g l w h
  have hov := wover_any p g r F d l w h.wal h.disk
  have h0 := h.wal
  have H := Lib.hid h
  obtain ⟨hl5, hl6, hl4⟩ := hl
  have HV := Lib.hid hv
  obtain ⟨A, ca, vs, rfl, hca, hma, -, -⟩ := id hv
  clear h hv
  obtain ⟨R, hR⟩ : ∃ R, R = rewriteW d l rs := ⟨_, rfl⟩
  rw [← hR]
  have HR := Lib.hid hR
  clear hR
  by_cases ho : l.over d = true
  · have HR2 : Hid (R = (6, d, l)) := Lib.hid (by rw [HR.out]; unfold rewriteW; rw [if_pos ho])
    rw [ho] at hov
    clear ho HR
    go_enter Try.func21, Try.ntmps21
    go_wp2_with (first | (go_at_call 41; refine (hn _ h0).mono ?_; rintro e w1 ⟨rfl, rfl⟩) | (go_at_call 42; refine hov.mono ?_; rintro e w1 ⟨rfl, hs1⟩))
    go_ret
    rw [HR2.out]
    exact ⟨rfl, ⟨F, fun _ h => Or.inl h, H.out.keepAll hs1⟩, hs1.mono fun _ _ _ => trivial⟩
  have ho' : l.over d = false := by simpa using ho
  rw [ho'] at hov
  have HO := Lib.hid ho
  clear ho ho'
  by_cases hg : 4611686018427387904 ≤ l.gen + 1
  · have HR2 : Hid (R = (8, d, l)) := Lib.hid (by rw [HR.out]; unfold rewriteW; rw [if_neg HO.out, if_pos hg])
    have hwr : IntKind.u64.wrap ((l.gen : Int) + 1) = (l.gen : Int) + 1 := by simp [IntKind.wrap, IntKind.bits, IntKind.signed]; omega
    have hgd : decide ((4611686018427387904 : Int) ≤ (l.gen : Int) + 1) = true := decide_eq_true (by omega)
    clear hg HR hl4
    go_enter Try.func21, Try.ntmps21
    go_wp2_with (first | (go_at_call 41; refine (hn _ h0).mono ?_; rintro e w1 ⟨rfl, rfl⟩) | (go_at_call 42; refine hov.mono ?_; rintro e w1 ⟨rfl, hs1⟩))
    obtain ⟨N, hN⟩ : ∃ N, N = rs.length := ⟨_, rfl⟩
    rw [← hN] at hca ⊢
    have HN := Lib.hid hN
    have HS1 := Lib.hid hs1
    have hNb : N ≤ 100000 := by rw [hN]; exact hrl
    clear hN hs1 hn h0 hov
    unfold maxLen at hma
    go_loop [27] (fun i => ∃ k : Nat, k ≤ N ∧ i = .int .i64 k) (fun i => N - (intOf i).toNat)
    case atStart => exact ⟨0, by omega, rfl⟩
    case round =>
      obtain ⟨k, hk, rfl⟩ := hrel
      by_cases hkN : k < N
      · have hkr : k < rs.length := by rw [← HN.out]; exact hkN
        obtain ⟨ad, A2, c2, rfl, -, hck, -⟩ := (HV.out.keep (HS1.out.mono fun _ _ _ => trivial)).at_ hkr
        have hlk := hr.out _ (List.getElem_mem hkr)
        generalize rs[k].length = L at hck hlk
        go_wp2
        go_round
        case rel => exact ⟨k + 1, by omega, by go_num⟩
        case measure => simp [intOf]; omega
      · obtain rfl : N = k := by omega
        clear hk hkN
        have LL := Lib.hid (H.out.keepAll HS1.out)
        have c4 := LL.out.wal.cell 4
        have hlt := Row.lt LL.out.wal
        simp at c4
        go_wp2
        go_ret
        rw [HR2.out]
        exact ⟨rfl, ⟨F, fun _ h => Or.inl h, LL.out⟩, HS1.out.mono fun _ _ _ => trivial⟩
  obtain ⟨G, hG⟩ : ∃ G, G = l.gen + 1 := ⟨_, rfl⟩
  have hwr : IntKind.u64.wrap ((l.gen : Int) + 1) = (G : Int) := by simp [IntKind.wrap, IntKind.bits, IntKind.signed]; omega
  have hgd : decide ((4611686018427387904 : Int) ≤ (G : Int)) = false := decide_eq_false (by omega)
  have hG64 : Hid (G < 2 ^ (8 * 8)) := Lib.hid (by omega)
  have HG := Lib.hid hG
  have HGN := Lib.hid hg
  obtain ⟨f, hf⟩ : ∃ f, f = l.other := ⟨_, rfl⟩
  have hf01 : f = 0 ∨ f = 1 := by rw [hf]; exact l.other_may
  have HF01 := Lib.hid hf01
  obtain ⟨⟨x1, d1⟩, hX1⟩ : ∃ X, X = d.clear f := ⟨_, rfl⟩
  obtain ⟨⟨x2, d2⟩, hX2⟩ : ∃ X, X = d1.append f (fileW G rs) := ⟨_, rfl⟩
  obtain ⟨⟨x3, d3⟩, hX3⟩ : ∃ X, X = d2.sync f := ⟨_, rfl⟩
  have HR2 : Hid (R = if x1 ≠ 0 then (x1, d1, l.fails x1) else if x2 ≠ 0 then (x2, d2, l.fails x2) else if x3 ≠ 0 then (x3, d3, l.fails x3) else (0, d3, { l with f := f, gen := G, count := rs.length, bytes := (fileW G rs).length })) := Lib.hid (by
    rw [HR.out]; unfold rewriteW
    rw [if_neg HO.out, if_neg hg, ← hf, ← hG, ← hX1]
    dsimp only
    rw [← hX2]
    dsimp only
    rw [← hX3])
  have fit1 := DiskM.clear_fit hd f (by omega)
  rw [← hX1] at fit1
  have fit2 := DiskM.append_fit fit1.1 f (fileW G rs) (by have := fit1.2.1; omega)
  rw [← hX2] at fit2
  have hb1 : x1 = 0 → (d1.file f).b = [] := fun h => by
    have := DiskM.clear_file (d := d) hf01 (by rw [← hX1]; exact h)
    rw [← hX1] at this
    rw [this]
  have hfl : (fileW G rs).length ≤ 1000000 := by rw [fileW_len] at hlen ⊢; exact hlen
  have HFL := Lib.hid hfl
  have HB1 := Lib.hid hb1
  have HF1 := Lib.hid fit1.1
  have HF2 := Lib.hid fit2.1
  have HX1 := Lib.hid hX1.symm
  have HX2 := Lib.hid hX2.symm
  have HX3 := Lib.hid hX3.symm
  have HF := Lib.hid hf
  clear hX1 hX2 hX3 hf hG hg hb1 fit1 fit2 hf01 HR hl4 hlen hfl HO
  go_enter Try.func21, Try.ntmps21
  go_wp2_with (first | (go_at_call 41; refine (hn _ h0).mono ?_; rintro e w1 ⟨rfl, rfl⟩) | (go_at_call 42; refine hov.mono ?_; rintro e w1 ⟨rfl, hs1⟩))
  obtain ⟨N, hN⟩ : ∃ N, N = rs.length := ⟨_, rfl⟩
  rw [← hN] at hca ⊢
  have HN := Lib.hid hN
  have HS1 := Lib.hid hs1
  have hNb : N ≤ 100000 := by rw [hN]; exact hrl
  clear hN hs1 hn h0 hov
  unfold maxLen at hma
  go_loop [27] (fun i => ∃ k : Nat, k ≤ N ∧ i = .int .i64 k) (fun i => N - (intOf i).toNat)
  case atStart => exact ⟨0, by omega, rfl⟩
  case round =>
    obtain ⟨k, hk, rfl⟩ := hrel
    by_cases hkN : k < N
    · have hkr : k < rs.length := by rw [← HN.out]; exact hkN
      obtain ⟨ad, A2, c2, rfl, -, hck, -⟩ := (HV.out.keep (HS1.out.mono fun _ _ _ => trivial)).at_ hkr
      have hlk := hr.out _ (List.getElem_mem hkr)
      generalize rs[k].length = L at hck hlk
      go_wp2
      go_round
      case rel => exact ⟨k + 1, by omega, by go_num⟩
      case measure => simp [intOf]; omega
    · obtain rfl : N = k := by omega
      clear hk hkN
      have LL := Lib.hid (H.out.keepAll HS1.out)
      have c4 := LL.out.wal.cell 4
      have hlt := Row.lt LL.out.wal
      simp at c4
      have hsG : Same (fun _ => True) w1 (w1.alloc (.cells #[.int .u8 71] 5)) := (Same.refl _ _).alloc _
      have hbG : By (w1.alloc (.cells #[.int .u8 71] 5)) (fun k => k = w1.heap.size) (.slice (some ⟨w1.heap.size, 0, none⟩) 1 1) [71] := (Row.new w1 5 (cs8 [71])).by_ (by simp [maxLen])
      have hput := put_any _ [71] G 8 _ _ hbG (by simp) (by omega) hG64.out
      have hsG := Lib.hid hsG
      clear hbG
      go_wp2_with (go_at_call 46; refine hput.mono ?_; rintro e w2 ⟨u2, rfl, hb2, hs2⟩; obtain ⟨A2, n2, rfl, -, -⟩ := hb2.formN (n := 9) (by simp [putN_len]))
      have hgen : [71] ++ putN 8 G = genF G := rfl
      rw [hgen] at hb2
      have hfp := fput_any (.slice none 0 0) _ [] (genF G) (fun _ => True) _ w2 ⟨none, 0, rfl, by simp, by simp [maxLen], Sl.nil _ _ _ _⟩ hb2.by_ (by simp) (by rw [genF_len]; omega)
      rw [List.nil_append] at hfp
      have HS2 := Lib.hid (hsG.out.trans hs2)
      clear hput hb2 hs2 hgen
      go_wp2_with (go_at_call 43; refine hfp.mono ?_; rintro e w3 ⟨u3, rfl, hb3, hs3⟩; obtain ⟨A3, n3, rfl, -, -⟩ := hb3.formN (n := 17) (by rw [recF_len, genF_len]))
      clear hfp
      have HS3 := Lib.hid ((HS1.out.trans HS2.out).trans hs3)
      have HB3 := Lib.hid (hb3.lower (B' := w.heap.size) (by have := HS1.out.size; have := HS2.out.size; omega))
      clear HS2 hs3 hb3 c4 hlt hsG LL
      go_wp2
      have hstart : Hid (OwnB w3 w.heap.size (.slice A3 17 n3) (recsF (genF G :: (rs.take 0).map (82 :: ·)))) := Lib.hid (by simpa [recsF] using HB3.out)
      go_loopw [9, 58] (fun b i wr => ∃ k : Nat, k ≤ N ∧ i = .int .i64 k ∧ Hid (OwnB wr w.heap.size b (recsF (genF G :: (rs.take k).map (82 :: ·)))) ∧ Hid (Same (fun _ => True) w wr)) (fun _ i _ => N - (intOf i).toNat)
      case atStart => exact ⟨0, by omega, rfl, hstart, HS3⟩
      case round =>
        obtain ⟨k, hk, rfl, HB, HS⟩ := hrel
        obtain ⟨wo, rfl⟩ : ∃ wo : World, wo = wr := ⟨_, rfl⟩
        clear hstart
        obtain ⟨LB, hLB⟩ : ∃ LB, LB = (recsF (genF G :: (rs.take k).map (82 :: ·))).length := ⟨_, rfl⟩
        obtain ⟨Ab, nb, rfl, -, -⟩ := HB.out.formN hLB.symm
        have HLB := Lib.hid hLB
        clear hLB
        by_cases hkN : k < N
        · have hkr : k < rs.length := by rw [← HN.out]; exact hkN
          obtain ⟨ad, Ar, cr, rfl, -, hck, hbr⟩ := (HV.out.keep (HS.out.mono fun _ _ _ => trivial)).at_ hkr
          have hlk := hr.out _ (List.getElem_mem hkr)
          have hpl : Hid ((recsF (genF G :: (rs.take (k + 1)).map (82 :: ·))) = recsF (genF G :: (rs.take k).map (82 :: ·)) ++ recF (82 :: rs[k])) := Lib.hid (by
            rw [List.take_succ_eq_append_getElem hkr, List.map_append, ← List.cons_append, recsF_app]; simp [recsF])
          have hpb : Hid ((recsF (genF G :: (rs.take k).map (82 :: ·))).length ≤ 1000000) := Lib.hid (by
            have h1 := HFL.out
            have h2 := take_len_mono (logL G rs) (i := k + 1) (j := (logL G rs).length) (by simp [logL]; omega)
            rw [List.take_length] at h2
            have h3 : (logL G rs).take (k + 1) = genF G :: (rs.take k).map (82 :: ·) := by
              simp only [logL, List.take_succ_cons]
              rw [List.take_append_of_le_length (by simp; omega), List.map_take]
            rw [h3] at h2
            unfold fileW at h1
            omega)
          generalize rs[k] = x at hck hlk hbr hpl
          obtain ⟨L, hL⟩ : ∃ L, L = x.length := ⟨_, rfl⟩
          rw [← hL] at hck hlk hbr
          have HL := Lib.hid hL
          have HBR := Lib.hid hbr
          clear hL hbr
          go_wp2_with (at_builtin; refine stopAt ?_)
          unfold Hid
          have hsB : Same (fun _ => True) wo (wo.alloc (.cells #[.int .u8 82] 5)) := (Same.refl _ _).alloc _
          have hown : OwnB (wo.alloc (.cells #[.int .u8 82] 5)) wo.heap.size (.slice (some ⟨wo.heap.size, 0, none⟩) 1 1) [82] :=
            (Row.new wo 5 [.int .u8 82]).owns (base := wo.heap.size) (size := 1) (n := 1) (cap := 1) (Nat.le_refl _) (by simp) (by omega) (by simp [maxLen])
          refine wpList_appB rfl (.tmp 63) (.tmp 64) rfl rfl rfl hown (HBR.out.keep (hsB.mono fun _ _ _ => trivial)) (by simp) (by have := HL.out; simp; omega) ?_
          intro v5 w5 hown5 hs5 hob5
          have HS5 : Hid (Same (fun _ => True) wo w5) := Lib.hid (hsB.trans' hs5 fun k hk _ e => by
            have e : some k = some wo.heap.size := e
            injection e with e
            omega)
          obtain ⟨A5, c5, rfl, -, -⟩ := hown5.formN (n := L + 1) (by have := HL.out; simp; omega)
          have hfp := fput_any (.slice none 0 0) _ [] (82 :: x) (fun _ => True) _ w5 ⟨none, 0, rfl, by simp, by simp [maxLen], Sl.nil _ _ _ _⟩ hown5.by_ (by simp) (by have := HL.out; simp; omega)
          rw [List.nil_append] at hfp
          clear hob5 hs5 hown5 hown hsB
          go_wp2_with (first | (go_at_call 43; refine hfp.mono ?_; rintro e w6 ⟨u6, rfl, hb6, hs6⟩; obtain ⟨A6, n6, rfl, -, -⟩ := hb6.formN (n := 9 + L) (by have := HL.out; rw [recF_len]; simp; omega)) | (at_builtin; refine stopAt ?_))
          unfold Hid
          have hs56 := HS5.out.trans hs6
          refine wpList_appB rfl (.tmp 69) (.tmp 70) rfl rfl rfl (HB.out.keepAll hs56) hb6.by_ (by have := HS.out.size; have := hs56.size; omega) (by have := hpb.out; have := HL.out; rw [recF_len, List.length_cons]; omega) ?_
          intro v7 w7 hown7 hs7 hob7
          have HS7 : Hid (Same (fun _ => True) w w7) := Lib.hid ((HS.out.trans hs56).trans' hs7 fun k hk _ e => by have := (HB.out.lt_ e.symm).1; omega)
          rw [← hpl.out] at hown7
          have HOWN := Lib.hid hown7
          clear hown7 hs7 hob7 hs56 hb6 hs6 HS5 hfp hck
          go_wp2
          go_roundw
          case rel => exact ⟨k + 1, by omega, by go_num, HOWN, HS7⟩
          case measure => simp [intOf]; omega
        · obtain rfl : N = k := by omega
          clear hk hkN
          have htk : rs.take N = rs := List.take_of_length_le (by rw [HN.out]; exact Nat.le_refl _)
          rw [htk] at HB HLB
          clear htk
          have hsE : Same (fun _ => True) wo (wo.alloc (.cells #[.int .u8 69] 5)) := (Same.refl _ _).alloc _
          have hbE : By (wo.alloc (.cells #[.int .u8 69] 5)) (fun k => k = wo.heap.size) (.slice (some ⟨wo.heap.size, 0, none⟩) 1 1) [69] := (Row.new wo 5 (cs8 [69])).by_ (by simp [maxLen])
          have hfile : Hid (recsF (genF G :: rs.map (82 :: ·)) ++ recF [69] = fileW G rs) := Lib.hid (by unfold fileW logL; rw [← List.cons_append, recsF_app]; simp [recsF])
          have hfp := fput_any _ _ (recsF (genF G :: rs.map (82 :: ·))) [69] _ _ _ (HB.out.by_.keep (hsE.mono fun _ _ _ => trivial)) hbE (by have h1 := HFL.out; rw [← hfile.out, List.length_append] at h1; omega) (by simp)
          rw [hfile.out] at hfp
          have HSE := Lib.hid hsE
          obtain ⟨LF, hLF⟩ : ∃ LF, LF = (fileW G rs).length := ⟨_, rfl⟩
          have HLF := Lib.hid hLF
          clear hsE hbE hLF
          have HWO := Lib.hid (H.out.keepAll HS.out)
          go_upto_if 83 with (go_at_call 43; refine hfp.mono ?_; rintro e w8 ⟨u8, rfl, hb8, hs8⟩; obtain ⟨A8, n8, rfl, -, -⟩ := hb8.formN HLF.out.symm; have e3 := (HWO.out.wal.keepAll (HSE.out.trans hs8)).cell 3; have hlt8 := Row.lt (HWO.out.wal.keepAll (HSE.out.trans hs8)); simp at e3)
          have HB8 := Lib.hid (hb8.lower (B' := w.heap.size) (by have := HS.out.size; simp; omega))
          have HS8 := Lib.hid (HSE.out.trans hs8)
          clear hb8 hs8 e3 hlt8
          go_cut [15] from 79 to 84 (fun v wx => v = .int .i64 f ∧ ∃ W, W = wx ∧ W = w8)
          case first =>
            by_cases hf0 : l.f = 0
            · obtain rfl : f = 1 := by rw [HF.out]; unfold WalM.other; rw [if_pos hf0]
              have hfb : (l.f == 0) = true := by simpa using hf0
              clear hf0
              go_wp2
              go_meet
              exact ⟨rfl, _, rfl, rfl⟩
            · obtain rfl : f = 0 := by rw [HF.out]; unfold WalM.other; rw [if_neg hf0]
              have hfb : (l.f == 0) = false := by simpa using hf0
              clear hf0
              go_wp2
              go_meet
              exact ⟨rfl, _, rfl, rfl⟩
          case rest =>
            obtain ⟨rfl, W, rfl, rfl⟩ := hcut
            have HW8 := Lib.hid (HWO.out.keepAll HS8.out)
            have hzW : w.heap.size ≤ W.heap.size := Nat.le_trans HS.out.size HS8.out.size
            have hpw : p < w.heap.size := Row.lt H.out.wal
            have hgw : g < w.heap.size := H.out.disk.2.1
            have hrw : r < w.heap.size := H.out.disk.2.2.1
            have HSw := Lib.hid (HS.out.trans HS8.out)
            have c0 := HW8.out.wal.cell 0
            have hlt := Row.lt HW8.out.wal
            simp at c0
            clear hfp HSE HWO HB3 HS3 hfile HS8 HB HS
            go_upto_region 25 with (fail)
            go_cut [16] from 84 to 92 (fun v wx => v = .int .i64 x1 ∧ ∃ W1, W1 = wx ∧ Hid (CutAt p g r F W d1 x1 l W1))
            case first =>
              have hsR : Same (fun _ => True) W W := Same.refl _ _
              go_wp2_with (go_at_call 47; refine stopAt ?_)
              unfold Hid
              have hLR := HW8.out.keepAll hsR
              have hcl := dclear_any g r F d f _ hLR.disk hd
              rw [HX1.out] at hcl
              refine hcl.mono ?_
              rintro e wa ⟨rfl, ⟨F', hF', hd'⟩, hsA⟩
              clear hcl
              go_wp2_with (go_at_call 44; refine stopAt ?_)
              unfold Hid
              refine (wfails_any p g l _ wa (hLR.wal.keep hsA ⟨hLR.pg, hLR.pr⟩)).mono ?_
              rintro e wb ⟨rfl, hw', hsB⟩
              obtain ⟨hL, hS⟩ := LogAt.after hLR hF' hd' hsA hw' hsB
              have HCUT := Lib.hid (show CutAt p g r F W d1 x1 l wb from ⟨F', fun k hk => (hF' k hk).imp id (fun h => Nat.le_trans hsR.size h), hL, (hsR.mono (S' := Lk p g r) fun _ _ _ => trivial).trans hS⟩)
              clear hd' hsA hw' hsB hS hL hLR hsR
              go_wp2
              go_meet
              exact ⟨rfl, _, rfl, HCUT⟩
            case rest =>
              obtain ⟨rfl, W1, rfl, HC1⟩ := hcut
              clear c0 hlt
              by_cases hx1 : x1 = 0
              case neg =>
                go_wp2
                go_ret
                obtain ⟨F1, hF1, hL1, hS1⟩ := HC1.out
                rw [HR2.out, if_pos hx1]
                exact ⟨rfl, ⟨F1, fun k hk => (hF1 k hk).imp id (fun h => by omega), hL1⟩, (HSw.out.mono fun _ _ _ => trivial).trans hS1⟩
              subst hx1
              obtain ⟨F1, hF1, hL1, hS1⟩ := HC1.out
              rw [WalM.fails0] at hL1
              have HL1 := Lib.hid hL1
              have HS1' := Lib.hid hS1
              have HF1' := Lib.hid hF1
              have HB9 := Lib.hid (HB8.out.keep hS1 (fun k hk _ => ⟨by omega, by omega, by omega⟩))
              have hzW1 : W.heap.size ≤ W1.heap.size := hS1.size
              have hbe := HB1.out rfl
              have hfl2 : Hid ((d1.file f).b.length + (fileW G rs).length ≤ 4194304) := Lib.hid (by rw [hbe]; have := HFL.out; simp; omega)
              have c0 := hL1.wal.cell 0
              have hlt := Row.lt hL1.wal
              simp at c0
              clear hL1 hS1 hF1 HC1 HB8 hbe
              go_upto_region 28 with (fail)
              go_cut [17] from 95 to 104 (fun v wx => v = .int .i64 x2 ∧ ∃ W2, W2 = wx ∧ Hid (CutAt p g r F1 W1 d2 x2 l W2))
              case first =>
                have hsR : Same (fun _ => True) W1 W1 := Same.refl _ _
                go_wp2_with (go_at_call 13; refine stopAt ?_)
                unfold Hid
                have hLR := HL1.out.keepAll hsR
                have hcl := dappend_any g r F1 _ d1 f _ _ _ hLR.disk HF1.out (HB9.out.by_.keepAll hsR) hfl2.out
                rw [HX2.out] at hcl
                refine hcl.mono ?_
                rintro e wa ⟨rfl, ⟨F', hF', hd'⟩, hsA⟩
                clear hcl
                go_wp2_with (go_at_call 44; refine stopAt ?_)
                unfold Hid
                refine (wfails_any p g l _ wa (hLR.wal.keep hsA ⟨hLR.pg, hLR.pr⟩)).mono ?_
                rintro e wb ⟨rfl, hw', hsB⟩
                obtain ⟨hL, hS⟩ := LogAt.after hLR hF' hd' hsA hw' hsB
                have HCUT := Lib.hid (show CutAt p g r F1 W1 d2 x2 l wb from ⟨F', fun k hk => (hF' k hk).imp id (fun h => Nat.le_trans hsR.size h), hL, (hsR.mono (S' := Lk p g r) fun _ _ _ => trivial).trans hS⟩)
                clear hd' hsA hw' hsB hS hL hLR hsR
                go_wp2
                go_meet
                exact ⟨rfl, _, rfl, HCUT⟩
              case rest =>
                obtain ⟨rfl, W2, rfl, HC2⟩ := hcut
                clear c0 hlt
                by_cases hx2 : x2 = 0
                case neg =>
                  go_wp2
                  go_ret
                  obtain ⟨F2, hF2, hL2, hS2⟩ := HC2.out
                  rw [HR2.out, if_neg (by simp), if_pos hx2]
                  exact ⟨rfl, ⟨F2, fun k hk => (hF2 k hk).elim (fun h => (HF1'.out k h).imp id (fun h => by omega)) (fun h => Or.inr (by omega)), hL2⟩, ((HSw.out.mono fun _ _ _ => trivial).trans HS1'.out).trans hS2⟩
                subst hx2
                obtain ⟨F2, hF2, hL2, hS2⟩ := HC2.out
                rw [WalM.fails0] at hL2
                have HL2 := Lib.hid hL2
                have HS2' := Lib.hid hS2
                have HF2' := Lib.hid (show ∀ k, F2 k → F k ∨ w.heap.size ≤ k from fun k hk => (hF2 k hk).elim (fun h => (HF1'.out k h).imp id (fun h => by omega)) (fun h => Or.inr (by omega)))
                have hzW2 : W1.heap.size ≤ W2.heap.size := hS2.size
                have c0 := hL2.wal.cell 0
                have hlt := Row.lt hL2.wal
                simp at c0
                clear hL2 hS2 hF2 HC2
                go_upto_region 31 with (fail)
                go_cut [18] from 107 to 115 (fun v wx => v = .int .i64 x3 ∧ ∃ W3, W3 = wx ∧ Hid (CutAt p g r F2 W2 d3 x3 l W3))
                case first =>
                  have hsR : Same (fun _ => True) W2 W2 := Same.refl _ _
                  go_wp2_with (go_at_call 32; refine stopAt ?_)
                  unfold Hid
                  have hLR := HL2.out.keepAll hsR
                  have hcl := dsync_any g r F2 d2 f _ hLR.disk HF2.out
                  rw [HX3.out] at hcl
                  refine hcl.mono ?_
                  rintro e wa ⟨rfl, ⟨F', hF', hd'⟩, hsA⟩
                  clear hcl
                  go_wp2_with (go_at_call 44; refine stopAt ?_)
                  unfold Hid
                  refine (wfails_any p g l _ wa (hLR.wal.keep hsA ⟨hLR.pg, hLR.pr⟩)).mono ?_
                  rintro e wb ⟨rfl, hw', hsB⟩
                  obtain ⟨hL, hS⟩ := LogAt.after hLR hF' hd' hsA hw' hsB
                  have HCUT := Lib.hid (show CutAt p g r F2 W2 d3 x3 l wb from ⟨F', fun k hk => (hF' k hk).imp id (fun h => Nat.le_trans hsR.size h), hL, (hsR.mono (S' := Lk p g r) fun _ _ _ => trivial).trans hS⟩)
                  clear hd' hsA hw' hsB hS hL hLR hsR
                  go_wp2
                  go_meet
                  exact ⟨rfl, _, rfl, HCUT⟩
                case rest =>
                  obtain ⟨rfl, W3, rfl, HC3⟩ := hcut
                  clear c0 hlt
                  by_cases hx3 : x3 = 0
                  case neg =>
                    go_wp2
                    go_ret
                    obtain ⟨F3, hF3, hL3, hS3⟩ := HC3.out
                    rw [HR2.out, if_neg (by simp), if_neg (by simp), if_pos hx3]
                    exact ⟨rfl, ⟨F3, fun k hk => (hF3 k hk).elim (fun h => HF2'.out k h) (fun h => Or.inr (by omega)), hL3⟩, (((HSw.out.mono fun _ _ _ => trivial).trans HS1'.out).trans HS2'.out).trans hS3⟩
                  subst hx3
                  obtain ⟨F3, hF3, hL3, hS3⟩ := HC3.out
                  rw [WalM.fails0] at hL3
                  have HL3 := Lib.hid hL3
                  have HS3' := Lib.hid hS3
                  have HF3' := Lib.hid hF3
                  have q3 := hL3.wal.cell 3
                  have q4 := hL3.wal.cell 4
                  have q5 := hL3.wal.cell 5
                  have q6 := hL3.wal.cell 6
                  have z3 := hL3.wal.frozen 3
                  have z4 := hL3.wal.frozen 4
                  have z5 := hL3.wal.frozen 5
                  have z6 := hL3.wal.frozen 6
                  have hlt := Row.lt hL3.wal
                  simp at q3 q4 q5 q6
                  clear hL3 hS3 hF3 HC3
                  go_wp2
                  go_ret
                  have hs9 : Same (fun k => k ≠ p) W3 ((((W3.setCell ⟨p, 3, none⟩ (.int .i64 f)).setCell ⟨p, 4, none⟩ (.int .u64 G)).setCell ⟨p, 5, none⟩ (.int .i64 N)).setCell ⟨p, 6, none⟩ (.int .i64 LF)) :=
                    ((((Same.refl _ _).setCell (fun _ h => h rfl) _).setCell (fun _ h => h rfl) _).setCell (fun _ h => h rfl) _).setCell (fun _ h => h rfl) _
                  have hw9 := (((HL3.out.wal.set_ 3 (.int .i64 f)).set_ 4 (.int .u64 G)).set_ 5 (.int .i64 N)).set_ 6 (.int .i64 LF)
                  rw [HR2.out, if_neg (by simp), if_neg (by simp), if_neg (by simp), ← HN.out, ← HLF.out]
                  exact ⟨rfl, ⟨F3, fun k hk => (HF3'.out k hk).elim (fun h => HF2'.out k h) (fun h => Or.inr (by omega)), ⟨HL3.out.disk.keep hs9 HL3.out.pg.symm HL3.out.pr.symm (fun k hk e => HL3.out.pF (e ▸ hk)), hw9, HL3.out.pF, HL3.out.pg, HL3.out.pr⟩⟩,
                    ((((HSw.out.mono fun _ _ _ => trivial).trans HS1'.out).trans HS2'.out).trans HS3'.out).trans (hs9.mono fun k _ hk => hk.2.2)⟩
end Go.Proofs.Ytpjinngngbifoaa
