/-
  The walks of light and begun.
-/
import Derived.Test.YtpbekhcogpkbpaaDoorVaS2
set_option linter.unusedSimpArgs false
set_option linter.unusedVariables false
namespace Go.Proofs.YtpbekhcogpkbpaaDoor
open Go.RowKit
theorem light_any (v : Val) (w : World) : Calls Tryd.prog 9 #[valV v] w (BoolP (decide (v.s.length ≤ 1000)) w) := by
  have e : decide ((v.s.length : Int) ≤ 1000) = decide (v.s.length ≤ 1000) := by congr 1; exact propext (by omega)
  unfold BoolP
  rw [← e]
  clear e
  go_enter Tryd.func9, Tryd.ntmps9
  go_wp2
  go_ret
  exact ⟨rfl, (Same.refl _ _).alloc _⟩
set_option maxRecDepth 100000 in
set_option maxHeartbeats 1000000 in
theorem begun_any (w : World) (hE : EnvT w) : Calls Tryd.prog 8 #[] w (BoolP true w) := by
  have hk := key_any ⟨2, -1, []⟩ (.slice none 0 0) [] (fun _ => True) w (By.none_ _ _ _ _ (by simp [maxLen])) (by simp) (show I64 (-1) by unfold I64; omega)
  obtain ⟨L, hL⟩ : ∃ L, L = ([] : List UInt8) ++ keyL ⟨2, -1, []⟩ := ⟨_, rfl⟩
  have hLe : L = [2, 127, 255, 255, 255, 255, 255, 255, 255] := by rw [hL]; decide +kernel
  rw [← hL, hLe] at hk
  clear hL hLe
  have HE := Lib.hid hE
  clear hE
  unfold BoolP
  go_enter Tryd.func8, Tryd.ntmps8
  go_wp2_with (go_at_call 11; refine stopAt ?_)
  unfold Hid
  refine hk.mono ?_
  rintro e w1 ⟨u, rfl, ho, hs1⟩
  obtain ⟨A, cap, rfl, hc1, hc2⟩ := ho.formN (n := 9) rfl
  have HO := Lib.hid ho
  have HS1 := Lib.hid hs1
  have htk := takekey_any _ _ _ w1 ho.by_ (by simp)
  rw [show takeKeyF [2, 127, 255, 255, 255, 255, 255, 255, 255] = (⟨2, -1, []⟩, 9, 0) by decide +kernel] at htk
  unfold TkP at htk
  clear hk ho hs1
  go_wp2_with (go_at_call 23; refine stopAt ?_)
  unfold Hid
  refine htk.mono ?_
  rintro e w2 ⟨rfl, hs2⟩
  have HS2 := Lib.hid (HS1.out.trans hs2)
  have ho2 := HO.out.keepAll hs2
  have ho3 := ho2.keepAll ((Same.refl _ _).alloc (.cells #[.int .i64 2, .int .i64 (-1), .string ⟨#[]⟩] 24))
  obtain ⟨ad, rfl, hcell⟩ := (By.cells ho2.by_).2 1 (by simp)
  have HLT : ad.block < w2.heap.size := World.block_lt_of_cell? w2 (ad.add 1) hcell
  have hcell : w2.cell? ⟨ad.block, ad.off + 1, none⟩ = some (.int .u8 127) := hcell
  have HE2 := Lib.hid (HE.out.keepAll HS2.out)
  clear htk hs2 ho2 ho3
  have hsh := fun W (h : EnvT W) => show_any ⟨3, 0, [105, 116, 39, 115]⟩ W (show I64 0 by unfold I64; omega) h
  unfold ShowP at hsh
  rw [show showL ⟨3, 0, [105, 116, 39, 115]⟩ = [39, 105, 116, 39, 39, 115, 39] by decide +kernel] at hsh
  have hmy := fun W => exMay_any ⟨0, 0, []⟩ W
  unfold BoolP at hmy
  rw [show mayV ⟨0, 0, []⟩ = true by decide] at hmy
  go_wp2_with (go_at_call 18; refine stopAt ?_)
  unfold Hid
  refine (hsh _ (HE2.out.keepAll ((Same.refl _ _).alloc _))).mono ?_
  rintro e w3 ⟨rfl, hs3⟩
  have HS3 := Lib.hid ((HS2.out.alloc _).trans hs3)
  clear hs3 hsh
  rw [show str [39, 105, 116, 39, 39, 115, 39] = ⟨#[39, 105, 116, 39, 39, 115, 39]⟩ from rfl]
  go_wp2_with (go_at_call 16; refine stopAt ?_)
  unfold Hid
  refine (hmy _).mono ?_
  rintro e w4 ⟨rfl, hs4⟩
  have HS4 := Lib.hid (HS3.out.trans hs4)
  clear hs4 hmy
  go_wp2
  go_ret
  exact ⟨rfl, HS4.out⟩
end Go.Proofs.YtpbekhcogpkbpaaDoor
