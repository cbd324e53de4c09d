/-
  The walk of the document's takeText.
-/
import Derived.Test.YtpbekhcogpkbpaaDoorVaK2
set_option linter.unusedSimpArgs false
set_option linter.unusedVariables false
namespace Go.Proofs.YtpbekhcogpkbpaaDoor
open Go.RowKit

set_option maxRecDepth 100000 in
set_option maxHeartbeats 2000000 in
theorem reftaketextV_any (v : Value) (b : List UInt8) (S : Nat → Prop) (w : World) (hv : By w S v b) (hl : b.length ≤ 100000) (h1 : 1 ≤ b.length) :
    Calls Tryd.prog 51 #[v] w (TkP (takeTextF (b.drop 1) 1 []) w) := by
  obtain ⟨A, cap, rfl, hcap, hm, -⟩ := id hv
  have HC := Lib.hid fun (W : World) (hs : Same (fun _ => True) w W) => (By.cells (hv.keep (hs.mono fun _ _ _ => trivial))).2
  unfold maxLen at hm
  obtain ⟨R, hR⟩ : ∃ R, R = takeTextF (b.drop 1) 1 [] := ⟨_, rfl⟩
  rw [← hR]
  have HR := Lib.hid hR
  obtain ⟨N, hN⟩ : ∃ N, N = b.length := ⟨_, rfl⟩
  rw [← hN] at hcap hl h1 ⊢
  have HN := Lib.hid hN
  have HST : Hid (TxIn w (w.alloc (.cells #[.int .i64 0, .int .i64 0, .string ⟨#[]⟩] 24)) (.slice none 0 0) []) := Lib.hid ⟨val_new w va0, OwnB.nil _ _, (Same.refl _ _).alloc _⟩
  clear hv hR hN
  go_enter Tryd.func51, Tryd.ntmps51
  go_wp2
  go_loopw [5, 6] (fun vs vi wr => ∃ (k : Nat) (acc : List UInt8), k ≤ N ∧ 1 ≤ k ∧ acc.length ≤ 64 ∧ vi = .int .i64 k ∧ Hid (TxIn w wr vs acc) ∧ Hid (takeTextF (b.drop k) k acc = R)) (fun _ vi _ => N - (intOf vi).toNat)
  case atStart => exact ⟨1, [], by omega, by omega, by simp, rfl, HST, Lib.hid HR.out.symm⟩
  case round =>
    obtain ⟨k, acc, hk, hk1, hacc, rfl, hI, hrel⟩ := hrel
    clear HR HST
    obtain ⟨wo, rfl⟩ : ∃ wo : World, wo = wr := ⟨_, rfl⟩
    obtain ⟨c0, c1, c2, z0, z1, z2⟩ := val_cells hI.out.box
    have hszo := hI.out.size
    have hlb := hI.out.box.lt
    simp [va0] at c0 c1 c2
    obtain ⟨L, hL⟩ : ∃ L, acc.length = L := ⟨_, rfl⟩
    have HL := Lib.hid hL
    rw [hL] at hacc
    obtain ⟨A5, cp5, rfl, -, hcp5⟩ := hI.out.own.formN hL
    unfold maxLen at hcp5
    by_cases hlt : k < N
    · have hkb : k < b.length := by rw [← HN.out]; exact hlt
      have hvs := txStep hkb hrel.out
      obtain ⟨ad, rfl, hcell⟩ := HC.out wo hI.out.same k hkb
      have hltI : (k : Int) < (N : Int) := by omega
      obtain ⟨c, hcc⟩ : ∃ c, c = b[k] := ⟨_, rfl⟩
      rw [← hcc] at hcell
      have hck : n8 c = (c.toNat : Int) := rfl
      have hcb := n8_bd c
      have hne : ∀ x y : UInt8, x ≠ y → ¬ x.toNat = y.toNat := fun x y h e => h (UInt8.toNat_inj.1 e)
      clear hrel hL
      cases hvs with
      | last hc h e =>
        rw [← hcc] at hc
        subst e
        have g1 : n8 c = 0 := by rw [hck, hc]; rfl
        have g2 : (k : Int) + 1 = (N : Int) := by have := HN.out; omega
        clear hc h hck hcc
        go_wp2
        obtain ⟨r1, r2⟩ := val_set3 va0 hI.out.box hI.out.same
        refine bodyPost_ret (rtext_results (n := 0) (e := 2) r1 rfl rfl rfl) rfl ?_
        exact ⟨rfl, r2⟩
      | ends hc h hd e =>
        rw [← hcc] at hc
        subst e
        obtain ⟨ad', e', hcell2⟩ := HC.out wo hI.out.same (k + 1) h
        injection e' with e'
        subst e'
        obtain ⟨d, hdd⟩ : ∃ d, d = b[k + 1] := ⟨_, rfl⟩
        rw [← hdd] at hcell2 hd
        have hcell3 : wo.cell? ⟨ad.block, ad.off + (k + 1), none⟩ = some (V8 d) := hcell2
        have hdk : n8 d = (d.toNat : Int) := rfl
        have hdb := n8_bd d
        have g2 : ¬ (k : Int) + 1 = (N : Int) := by have := HN.out; omega
        have g5 : (k : Int) + 1 < (N : Int) := by have := HN.out; omega
        have g1 : n8 c = 0 := by rw [hck, hc]; rfl
        have g3 : n8 d = 1 := by rw [hdk, hd]; rfl
        have hcv := conv_by hI.out.own.by_
        clear hc h hck hcc hd hdd hdk
        go_wp2
        obtain ⟨r1, r2⟩ := val_set3 ⟨3, 0, acc⟩ hI.out.box hI.out.same
        refine bodyPost_ret (rtext_results (n := k + 2) (e := 0) r1 rfl rfl rfl) rfl ?_
        exact ⟨rfl, r2⟩
      | form hc h hd hd2 e =>
        rw [← hcc] at hc
        subst e
        obtain ⟨ad', e', hcell2⟩ := HC.out wo hI.out.same (k + 1) h
        injection e' with e'
        subst e'
        obtain ⟨d, hdd⟩ : ∃ d, d = b[k + 1] := ⟨_, rfl⟩
        rw [← hdd] at hcell2 hd hd2
        have hcell3 : wo.cell? ⟨ad.block, ad.off + (k + 1), none⟩ = some (V8 d) := hcell2
        have hdk : n8 d = (d.toNat : Int) := rfl
        have hdb := n8_bd d
        have g2 : ¬ (k : Int) + 1 = (N : Int) := by have := HN.out; omega
        have g5 : (k : Int) + 1 < (N : Int) := by have := HN.out; omega
        have g1 : n8 c = 0 := by rw [hck, hc]; rfl
        have g3 : ¬ n8 d = 1 := by rw [hdk]; have := hne d 1 hd; have e1 : (1 : UInt8).toNat = 1 := rfl; omega
        have g4 : ¬ n8 d = 255 := by rw [hdk]; have := hne d 255 hd2; have e1 : (255 : UInt8).toNat = 255 := rfl; omega
        clear hc h hck hcc hd hd2 hdd hdk
        go_wp2
        obtain ⟨r1, r2⟩ := val_set3 va0 hI.out.box hI.out.same
        refine bodyPost_ret (rtext_results (n := 0) (e := 9) r1 rfl rfl rfl) rfl ?_
        exact ⟨rfl, r2⟩
      | long0 hc h hd ha e =>
        rw [← hcc] at hc
        subst e
        obtain ⟨ad', e', hcell2⟩ := HC.out wo hI.out.same (k + 1) h
        injection e' with e'
        subst e'
        obtain ⟨d, hdd⟩ : ∃ d, d = b[k + 1] := ⟨_, rfl⟩
        rw [← hdd] at hcell2 hd
        have hcell3 : wo.cell? ⟨ad.block, ad.off + (k + 1), none⟩ = some (V8 d) := hcell2
        have hdk : n8 d = (d.toNat : Int) := rfl
        have hdb := n8_bd d
        have g2 : ¬ (k : Int) + 1 = (N : Int) := by have := HN.out; omega
        have g5 : (k : Int) + 1 < (N : Int) := by have := HN.out; omega
        have g1 : n8 c = 0 := by rw [hck, hc]; rfl
        have g3 : n8 d = 255 := by rw [hdk, hd]; rfl
        have g6 : (L : Int) = 64 := by have := HL.out; omega
        clear hc h hck hcc hd hdd hdk ha
        go_wp2
        obtain ⟨r1, r2⟩ := val_set3 va0 hI.out.box hI.out.same
        refine bodyPost_ret (rtext_results (n := 0) (e := 3) r1 rfl rfl rfl) rfl ?_
        exact ⟨rfl, r2⟩
      | next0 hc h hd ha e =>
        rw [← hcc] at hc
        obtain ⟨ad', e', hcell2⟩ := HC.out wo hI.out.same (k + 1) h
        injection e' with e'
        subst e'
        obtain ⟨d, hdd⟩ : ∃ d, d = b[k + 1] := ⟨_, rfl⟩
        rw [← hdd] at hcell2 hd
        have hcell3 : wo.cell? ⟨ad.block, ad.off + (k + 1), none⟩ = some (V8 d) := hcell2
        have hdk : n8 d = (d.toNat : Int) := rfl
        have hdb := n8_bd d
        have g2 : ¬ (k : Int) + 1 = (N : Int) := by have := HN.out; omega
        have g5 : (k : Int) + 1 < (N : Int) := by have := HN.out; omega
        have g1 : n8 c = 0 := by rw [hck, hc]; rfl
        have g3 : n8 d = 255 := by rw [hdk, hd]; rfl
        have g6 : ¬ (L : Int) = 64 := by have := HL.out; omega
        have HE : Hid (takeTextF (b.drop (k + 2)) (k + 2) (acc ++ [c]) = R) := Lib.hid (by rw [hc]; exact e)
        have hL63 : L ≤ 63 := by omega
        have hk2 : k + 2 ≤ N := by have := HN.out; omega
        have HCC := Lib.hid hcc
        clear hc h hck hd hdd hdk ha e hcc
        go_wp2_with (at_builtin; refine stopAt ?_)
        unfold Hid
        refine wpList_appB1 (bs := acc) (c := c) rfl (.tmp 46) (.tmp 51) rfl rfl rfl hI.out.own hszo (by rw [HL.out]; omega) ?_
        intro u6 w6 hu6 hs6
        have hI6 := Lib.hid (hI.out.next hu6 hs6)
        obtain ⟨ad6, e6, hcell6⟩ := HC.out w6 hI6.out.same k hkb
        injection e6 with e6
        subst e6
        rw [← HCC.out] at hcell6
        clear hI hu6 hs6 c0 c1 c2 z0 z1 z2
        go_wp2
        go_roundw
        case rel => exact ⟨k + 2, acc ++ [c], by omega, by omega, by rw [List.length_append, HL.out]; simp; omega, by go_num, hI6, HE⟩
        case measure => simp [intOf]; omega
      | long hc ha e =>
        rw [← hcc] at hc
        subst e
        have g1 : ¬ n8 c = 0 := by rw [hck]; have := hne c 0 hc; have e1 : (0 : UInt8).toNat = 0 := rfl; omega
        have g6 : (L : Int) = 64 := by have := HL.out; omega
        clear hc hck hcc ha
        go_wp2
        obtain ⟨r1, r2⟩ := val_set3 va0 hI.out.box hI.out.same
        refine bodyPost_ret (rtext_results (n := 0) (e := 3) r1 rfl rfl rfl) rfl ?_
        exact ⟨rfl, r2⟩
      | next hc ha e =>
        rw [← hcc] at hc e
        have g1 : ¬ n8 c = 0 := by rw [hck]; have := hne c 0 hc; have e1 : (0 : UInt8).toNat = 0 := rfl; omega
        have g6 : ¬ (L : Int) = 64 := by have := HL.out; omega
        have HE := Lib.hid e
        have hL63 : L ≤ 63 := by omega
        have HCC := Lib.hid hcc
        clear hc hck ha e hcc
        go_wp2_with (at_builtin; refine stopAt ?_)
        unfold Hid
        refine wpList_appB1 (bs := acc) (c := c) rfl (.tmp 46) (.tmp 51) rfl rfl rfl hI.out.own hszo (by rw [HL.out]; omega) ?_
        intro u6 w6 hu6 hs6
        have hI6 := Lib.hid (hI.out.next hu6 hs6)
        obtain ⟨ad6, e6, hcell6⟩ := HC.out w6 hI6.out.same k hkb
        injection e6 with e6
        subst e6
        rw [← HCC.out] at hcell6
        clear hI hu6 hs6 c0 c1 c2 z0 z1 z2
        go_wp2
        go_roundw
        case rel => exact ⟨k + 1, acc ++ [c], by omega, by omega, by rw [List.length_append, HL.out]; simp; omega, by go_num, hI6, HE⟩
        case measure => simp [intOf]; omega
    · obtain rfl : N = k := by omega
      have hst0 : R = (va0, 0, 2) := by rw [← hrel.out, List.drop_eq_nil_of_le (by rw [← HN.out]; exact Nat.le_refl _), takeTextF]
      subst hst0
      clear hrel hL
      go_wp2
      obtain ⟨r1, r2⟩ := val_set3 va0 hI.out.box hI.out.same
      refine bodyPost_ret (rtext_results (n := 0) (e := 2) r1 rfl rfl rfl) rfl ?_
      exact ⟨rfl, r2⟩
end Go.Proofs.YtpbekhcogpkbpaaDoor
