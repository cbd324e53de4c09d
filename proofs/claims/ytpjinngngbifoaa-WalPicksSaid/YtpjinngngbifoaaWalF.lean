/-
  A whole file by hand: the walk of whole.
-/
import Derived.Test.YtpjinngngbifoaaWalT
import Derived.Test.YtpjinngngbifoaaFrmR
set_option linter.unusedSimpArgs false
set_option linter.unusedVariables false
namespace Go.Proofs.Ytpjinngngbifoaa
open Go.RowKit

def EightPost (x : Nat) (w : World) (e : Ending) (w' : World) : Prop := ∃ u, e = .returned u ∧ OwnB w' w.heap.size u (putN 8 x) ∧ Same (fun _ => True) w w'
theorem refeight_any (x : Nat) (w : World) (hx : x < 2 ^ (8 * 8)) : Calls Try.prog 37 #[.int .u64 x] w (EightPost x w) := by
  have hput := refput_any (.slice none 0 0) [] x 8 (fun _ => True) w ⟨none, 0, rfl, by simp, by simp [maxLen], Sl.nil _ _ _ _⟩ (by simp) (by omega) hx
  rw [List.nil_append] at hput
  clear hx
  go_enter Try.func37, Try.ntmps37
  go_wp2_with (go_at_call 63; refine hput.mono ?_; rintro e w1 ⟨u, rfl, hu, hs⟩; obtain ⟨A, c, rfl, -, -⟩ := hu.formN (putN_len 8 x))
  go_ret
  exact ⟨_, rfl, hu, hs⟩
def WholePost (bs : List UInt8) (w : World) (e : Ending) (w' : World) : Prop := ∃ u, e = .returned u ∧ OwnB w' w.heap.size u bs ∧ Same (fun _ => True) w w'
theorem take_map_snoc (rs : List (List UInt8)) {k : Nat} (h : k < rs.length) (g : Nat) : recsF (genF g :: (rs.take (k + 1)).map (82 :: ·)) = recsF (genF g :: (rs.take k).map (82 :: ·)) ++ recF (82 :: rs[k]) := by
  rw [List.take_succ_eq_append_getElem h, List.map_append, ← List.cons_append, recsF_app]; simp [recsF]
theorem fileW_split (g : Nat) (rs : List (List UInt8)) : fileW g rs = recsF (genF g :: rs.map (82 :: ·)) ++ recF [69] := by
  unfold fileW logL; rw [← List.cons_append, recsF_app]; simp [recsF]
theorem part_le (g : Nat) (rs : List (List UInt8)) (k : Nat) : (recsF (genF g :: (rs.take k).map (82 :: ·))).length ≤ (fileW g rs).length := by
  rw [recsF_cons, List.length_append, appR_len, recF_len, genF_len, fileW_len]
  have h1 := flat_take_le rs k
  have h2 : (rs.take k).length ≤ rs.length := by rw [List.length_take]; omega
  omega
set_option maxRecDepth 100000 in
set_option maxHeartbeats 2000000 in
theorem whole_any (G : Nat) (v vt : Value) (rs : List (List UInt8)) (tail : List UInt8) (S S2 : Nat → Prop) (w : World) (hG : G < 2 ^ (8 * 8)) (hv : ByL w S v rs) (ht : By w S2 vt tail) (hl : rs.length ≤ 1000) (hf : (fileW G rs).length ≤ 19000) (htl : tail.length ≤ 1000) :
    Calls Try.prog 14 #[.int .u64 G, v, vt] w (WholePost (fileW G rs ++ tail) w) := by
  have kc := conv_const
  obtain ⟨A, ca, vs, rfl, hca, hma, -, -⟩ := id hv
  obtain ⟨At, ct, rfl, hct, hmt, -⟩ := id ht
  have HV := Lib.hid hv
  have HT := Lib.hid ht
  clear hv ht
  unfold maxLen at hma hmt
  have hr : Hid (∀ x ∈ rs, x.length ≤ 19000) := Lib.hid fun x hx => by have := mem_flat_le hx; rw [fileW_len] at hf; omega
  obtain ⟨N, hN⟩ : ∃ N, N = rs.length := ⟨_, rfl⟩
  rw [← hN] at hca hl ⊢
  have HN := Lib.hid hN
  obtain ⟨TL, hTL⟩ : ∃ TL, TL = tail.length := ⟨_, rfl⟩
  have ht := HT.out
  rw [← hTL] at hct htl ht ⊢
  have HT := Lib.hid ht
  clear ht
  have HTL := Lib.hid hTL
  have HF := Lib.hid hf
  have heig := fun W => refeight_any G W hG
  clear hN hTL hf hG
  go_enter Try.func14, Try.ntmps14
  go_wp2_with (go_at_call 37; refine stopAt ?_)
  unfold Hid
  have hsA : Same (fun _ => True) w (w.alloc (.cells #[.int .u8 71] 5 (1, 2))) := (Same.refl _ _).alloc _
  refine (heig _).mono ?_
  rintro e w1 ⟨u1, rfl, hu1, hs1⟩
  obtain ⟨A1, c1, rfl, -, -⟩ := hu1.formN (putN_len 8 G)
  have hb71 : By w1 (fun _ => True) (.slice (some ⟨w.heap.size, 0, none⟩) 1 1) [71] := (By.lit (n := 1) (c := 1) (fr := (1, 2)) (e := 5) (w := w.alloc (.cells #[.int .u8 71] 5 (1, 2))) (heap_now rfl) trivial rfl (Nat.le_refl 1) (by simp [maxLen])).keepAll hs1
  have HS1 := Lib.hid (hsA.trans hs1)
  clear hsA hs1 heig
  go_wp2_with (at_builtin; refine stopAt ?_)
  unfold Hid
  refine wpList_full rfl (.tmp 12) (.tmp 14) rfl (some ⟨w.heap.size, 0, none⟩) 1 [71] (putN 8 G) (fun _ => True) _ A1 8 c1 rfl hb71 rfl (by have := hu1.by_; exact this) (by omega) ?_
  intro A2 c2 w2 hby2 hs2
  have hgen : [71] ++ putN 8 G = genF G := rfl
  rw [hgen] at hby2
  have hfp := rfput_any (.slice none 0 0) _ [] (genF G) (fun _ => True) _ w2 ⟨none, 0, rfl, by simp, by simp [maxLen], Sl.nil _ _ _ _⟩ hby2 (by simp) (by rw [genF_len]; omega)
  rw [List.nil_append] at hfp
  have HS2 := Lib.hid (HS1.out.trans hs2)
  clear hb71 hu1 hby2 hs2 hgen
  go_wp2_with (go_at_call 36; refine hfp.mono ?_; rintro e w3 ⟨u3, rfl, hb3, hs3⟩; obtain ⟨A3, n3, rfl, -, -⟩ := hb3.formN (n := 17) (by rw [recF_len, genF_len]))
  have HS3 := Lib.hid (HS2.out.trans hs3)
  have hstart : Hid (OwnB w3 w.heap.size (.slice A3 17 n3) (recsF (genF G :: (rs.take 0).map (82 :: ·)))) := Lib.hid (by
    have := hb3.lower (B' := w.heap.size) HS2.out.size
    simpa [recsF] using this)
  clear hfp hb3 hs3
  go_loopw [7, 9] (fun b i wr => ∃ k : Nat, k ≤ N ∧ i = .int .i64 k ∧ Hid (OwnB wr w.heap.size b (recsF (genF G :: (rs.take k).map (82 :: ·)))) ∧ Hid (Same (fun _ => True) w wr)) (fun _ i _ => N - (intOf i).toNat)
  case atStart => exact ⟨0, by omega, rfl, hstart, HS3⟩
  case round =>
    obtain ⟨k, hk, rfl, HB, HS⟩ := hrel
    obtain ⟨wo, rfl⟩ : ∃ wo : World, wo = wr := ⟨_, rfl⟩
    clear hstart
    obtain ⟨LB, hLB⟩ : ∃ LB, LB = (recsF (genF G :: (rs.take k).map (82 :: ·))).length := ⟨_, rfl⟩
    obtain ⟨Ab, nb, rfl, -, -⟩ := HB.out.formN hLB.symm
    have HLB := Lib.hid hLB
    have hLBb : LB ≤ 20000 := by rw [hLB]; exact Nat.le_trans (Nat.le_trans (part_le G rs k) HF.out) (by omega)
    clear hLB
    by_cases hkN : k < N
    · have hkr : k < rs.length := by rw [← HN.out]; exact hkN
      obtain ⟨ad, Ar, cr, rfl, -, hck, hbr⟩ := (HV.out.keep (HS.out.mono fun _ _ _ => trivial)).at_ hkr
      have hlk := hr.out _ (List.getElem_mem hkr)
      have hpl := Lib.hid (take_map_snoc rs hkr G)
      generalize rs[k] = x at hck hlk hbr hpl
      obtain ⟨L, hL⟩ : ∃ L, L = x.length := ⟨_, rfl⟩
      rw [← hL] at hck hlk hbr
      have HL := Lib.hid hL
      have HBR := Lib.hid hbr
      clear hL hbr
      have hltad := World.block_lt_of_cell? wo _ hck
      go_wp2_with (at_builtin; refine stopAt ?_)
      unfold Hid
      have hsB : Same (fun _ => True) wo (wo.alloc (.cells #[.int .u8 82] 5 (1, 2))) := (Same.refl _ _).alloc _
      have hb82 : By (wo.alloc (.cells #[.int .u8 82] 5 (1, 2))) (fun _ => True) (.slice (some ⟨wo.heap.size, 0, none⟩) 1 1) [82] := By.lit (n := 1) (c := 1) (fr := (1, 2)) (e := 5) (heap_now rfl) trivial rfl (Nat.le_refl 1) (by simp [maxLen])
      refine wpList_full rfl (.tmp 28) (.tmp 32) rfl (some ⟨wo.heap.size, 0, none⟩) 1 [82] x (fun _ => True) _ Ar L cr rfl hb82 rfl (HBR.out.keep (hsB.mono fun _ _ _ => trivial)) (by omega) ?_
      intro A5 c5 w5 hby5 hs5
      have hs15 := hsB.trans hs5
      have hfp := rfput_any _ _ (recsF (genF G :: (rs.take k).map (82 :: ·))) (82 :: x) _ _ w5 (HB.out.keepAll hs15).by_ hby5 (by rw [← HLB.out]; omega) (by have := HL.out; simp; omega)
      rw [← hpl.out] at hfp
      have HS5 := Lib.hid (HS.out.trans hs15)
      obtain ⟨M6, hM6⟩ : ∃ M6, M6 = (recsF (genF G :: (rs.take (k + 1)).map (82 :: ·))).length := ⟨_, rfl⟩
      have HM6 := Lib.hid hM6.symm
      clear hb82 hby5 hs5 hsB hs15 hck hM6
      go_wp2_with (go_at_call 36; refine hfp.mono ?_; rintro e w6 ⟨u6, rfl, hb6, hs6⟩; obtain ⟨A6, n6, rfl, -, -⟩ := hb6.formN HM6.out)
      have HO6 := Lib.hid (hb6.lower (B' := w.heap.size) HS5.out.size)
      have HS6 := Lib.hid (HS5.out.trans hs6)
      clear hfp hb6 hs6
      go_wp2
      go_roundw
      case rel => exact ⟨k + 1, by omega, by go_num, HO6, HS6⟩
      case measure => simp [intOf]; omega
    · obtain rfl : N = k := by omega
      clear hk hkN
      have htk : rs.take N = rs := List.take_of_length_le (by rw [HN.out]; exact Nat.le_refl _)
      rw [htk] at HB HLB
      clear htk
      have hsE : Same (fun _ => True) wo (wo.alloc (.cells #[.int .u8 69] 5 (1, 2))) := (Same.refl _ _).alloc _
      have hb69 : By (wo.alloc (.cells #[.int .u8 69] 5 (1, 2))) (fun _ => True) (.slice (some ⟨wo.heap.size, 0, none⟩) 1 1) [69] := By.lit (n := 1) (c := 1) (fr := (1, 2)) (e := 5) (heap_now rfl) trivial rfl (Nat.le_refl 1) (by simp [maxLen])
      have hfp := rfput_any _ _ (recsF (genF G :: rs.map (82 :: ·))) [69] _ _ _ (HB.out.keepAll hsE).by_ hb69 (by rw [← HLB.out]; omega) (by simp)
      rw [← fileW_split] at hfp
      have HSE := Lib.hid (HS.out.trans hsE)
      obtain ⟨LF, hLF⟩ : ∃ LF, LF = (fileW G rs).length := ⟨_, rfl⟩
      have HLF := Lib.hid hLF
      have hLFb : LF ≤ 20000 := by rw [hLF]; exact Nat.le_trans HF.out (by omega)
      clear hsE hb69 hLF
      go_wp2_with (first | (go_at_call 36; refine hfp.mono ?_; rintro e w8 ⟨u8, rfl, hb8, hs8⟩; obtain ⟨A8, n8, rfl, -, -⟩ := hb8.formN HLF.out.symm) | (at_builtin; refine stopAt ?_))
      unfold Hid
      have hs18 := HSE.out.trans hs8
      have hb8' := hb8.lower (B' := w.heap.size) HSE.out.size
      refine wpList_appB rfl (.tmp 44) (.tmp 45) rfl rfl rfl hb8' (HT.out.keep (hs18.mono fun _ _ _ => trivial)) hs18.size (by rw [← HLF.out, ← HTL.out]; omega) ?_
      intro v9 w9 hown9 hs9 hob9
      have HS9 : Hid (Same (fun _ => True) w w9) := Lib.hid (hs18.trans' hs9 fun q hq _ e => by have := (hb8'.lt_ e.symm).1; omega)
      have HO9 := Lib.hid hown9
      clear hown9 hs9 hob9 hb8 hb8' hs8 hs18 hfp
      go_wp2
      go_ret
      exact ⟨_, rfl, HO9.out, HS9.out⟩
end Go.Proofs.Ytpjinngngbifoaa
