/-
  The walks of bits' numbers of any length, the program's and the document's.
-/
import Derived.Test.YtpbekhcogpkbpaaDoorVaX
import Derived.Test.YtpbekhcogpkbpaaDoorVaT
set_option linter.unusedSimpArgs false
set_option linter.unusedVariables false
namespace Go.Proofs.YtpbekhcogpkbpaaDoor
open Go.RowKit

theorem varL_le : ∀ (k x : Nat), 1 ≤ k → x < 128 ^ k → (varL x).length ≤ k
  | 0, x, h, _ => by omega
  | k + 1, x, _, hx => by
    unfold varL
    split
    · simp
    · rename_i h
      rw [List.length_cons]
      have hk : 1 ≤ k := by
        rcases Nat.eq_zero_or_pos k with h0 | h0
        · subst h0; simp at hx; omega
        · exact h0
      have := varL_le k (x / 128) hk (by rw [Nat.pow_succ] at hx; omega)
      omega
theorem varL_10 {x : Nat} (h : x < 18446744073709551616) : (varL x).length ≤ 10 := varL_le 10 x (by omega) (Nat.lt_of_lt_of_le h (by decide))
theorem varL_step {y : Nat} (h : 128 ≤ y) : varL y = UInt8.ofNat (y % 128 + 128) :: varL (y / 128) := by
  conv => lhs; unfold varL
  rw [dif_neg (by omega)]
theorem varL_last {y : Nat} (h : y < 128) : varL y = [UInt8.ofNat y] := by unfold varL; rw [dif_pos h]
theorem or_byte (y : Nat) : bits .or .u8 ((y : Int) % 256) 128 = n8 (UInt8.ofNat (y % 128 + 128)) := by
  have h1 : ((y : Int) % 256) = ((y % 256 : Nat) : Int) := by omega
  rw [h1, show (128 : Int) = ((128 : Nat) : Int) from rfl, u8_or_nat _ _ (by omega) (by omega), or_more (by omega)]
  unfold n8
  rw [UInt8.toNat_ofNat']
  omega
set_option maxRecDepth 100000 in
set_option maxHeartbeats 1000000 in
theorem var_any (v : Value) (bs : List UInt8) (x : Nat) (S : Nat → Prop) (w : World) (hv : By w S v bs) (hl : bs.length ≤ 9000000) (hx : x < 18446744073709551616) :
    Calls Tryd.prog 29 #[v, .int .u64 x] w (OwnPost (bs ++ varL x) w) := by
  have hroom := room_any v bs 10 S w hv (by omega) (by omega) (by omega)
  obtain ⟨A, cap, rfl, hc1, hm, hs⟩ := hv
  unfold maxLen at hm
  have h10 := varL_10 hx
  obtain ⟨L, hL⟩ : ∃ L, L = varL x := ⟨_, rfl⟩
  rw [← hL] at h10 ⊢
  have HL := Lib.hid hL
  clear hs hL
  go_enter Tryd.func29, Tryd.ntmps29
  go_wp2_with (go_at_call 59; refine hroom.mono ?_; rintro e w1 ⟨u, rfl, hu, hs1⟩)
  have HU := Lib.hid (show OwnB w1 w.heap.size u (bs ++ []) by simpa using hu)
  have HS1 := Lib.hid hs1
  clear hu hs1 hroom
  go_loopw [1, 5] (fun vi o wr => ∃ (y : Nat) (acc : List UInt8), vi = .int .u64 y ∧ Hid (OwnB wr w.heap.size o (bs ++ acc)) ∧ Hid (Same (fun _ => True) w wr) ∧ Hid (acc ++ varL y = L) ∧ y < 18446744073709551616) (fun vi _ _ => (intOf vi).toNat)
  case atStart => exact ⟨x, [], rfl, HU, HS1, Lib.hid HL.out.symm, hx⟩
  case round =>
    obtain ⟨y, acc, rfl, ho, hsm, hacc, hy⟩ := hrel
    obtain ⟨A5, c5, rfl, hc5, hm5⟩ := ho.out.form
    have hal : acc.length ≤ 10 := by have := congrArg List.length hacc.out; rw [List.length_append] at this; omega
    clear HU HS1
    have hsz := hsm.out.size
    by_cases hge : 128 ≤ y
    · have hgI : (128 : Int) ≤ (y : Int) := by omega
      have hob := or_byte y
      obtain ⟨c, hc⟩ : ∃ c, c = UInt8.ofNat (y % 128 + 128) := ⟨_, rfl⟩
      rw [← hc] at hob
      have hac' : Hid ((acc ++ [c]) ++ varL (y / 128) = L) := Lib.hid (by rw [← hacc.out, varL_step (y := y) (by omega), List.append_assoc, hc]; rfl)
      clear hge hc hacc
      go_wp2_with (at_builtin; refine stopAt ?_)
      unfold Hid
      refine wpList_appB1 (bs := bs ++ acc) (c := c) rfl (.tmp 12) (.tmp 16) rfl rfl rfl ho.out hsz (by rw [List.length_append]; omega) ?_
      intro v' w2 hown hs2
      have hown' : Hid (OwnB w2 w.heap.size v' (bs ++ (acc ++ [c]))) := Lib.hid (by rw [← List.append_assoc]; exact hown)
      have hsm' : Hid (Same (fun _ => True) w w2) := Lib.hid (hsm.out.trans' hs2 fun k hk _ => hk)
      clear hown hs2 ho hsm hob
      go_wp2
      go_roundw
      case rel => exact ⟨y / 128, _, by simp, hown', hsm', hac', by omega⟩
      case measure => simp [intOf]; omega
    · have hlI : (y : Int) < 128 := by omega
      obtain ⟨c, hc⟩ : ∃ c, c = UInt8.ofNat y := ⟨_, rfl⟩
      have hob : Hid (Value.int .u8 (y : Int) = V8 c) := Lib.hid (by show Value.int .u8 (y : Int) = .int .u8 (n8 c); rw [hc]; unfold n8; rw [UInt8.toNat_ofNat']; congr 1; omega)
      have hL' : Hid (acc ++ [c] = L) := Lib.hid (by rw [← hacc.out, varL_last (y := y) (by omega), hc])
      clear hge hc hacc
      go_wp2_with (at_builtin; refine stopAt ?_)
      unfold Hid
      rw [hob.out]
      refine wpList_appB1 (bs := bs ++ acc) (c := c) rfl (.tmp 18) (.tmp 21) rfl rfl rfl ho.out hsz (by rw [List.length_append]; omega) ?_
      intro v' w2 hown hs2
      have hown' : Hid (OwnB w2 w.heap.size v' (bs ++ L)) := Lib.hid (by rw [← hL'.out, ← List.append_assoc]; exact hown)
      have hsm' : Hid (Same (fun _ => True) w w2) := Lib.hid (hsm.out.trans' hs2 fun k hk _ => hk)
      clear hown hs2 ho hsm hob
      go_wp2
      go_ret
      exact ⟨_, rfl, hown'.out, hsm'.out⟩
set_option maxRecDepth 100000 in
set_option maxHeartbeats 1000000 in
theorem refvar_any (v : Value) (bs : List UInt8) (x : Nat) (S : Nat → Prop) (w : World) (hv : By w S v bs) (hl : bs.length ≤ 9000000) (hx : x < 18446744073709551616) :
    Calls Tryd.prog 34 #[v, .int .u64 x] w (OwnPost (bs ++ varL x) w) := by
  have HV := Lib.hid hv
  obtain ⟨A, cap, rfl, hc1, hm, hs⟩ := hv
  unfold maxLen at hm
  have h10 := varL_10 hx
  obtain ⟨L, hL⟩ : ∃ L, L = varL x := ⟨_, rfl⟩
  rw [← hL] at h10 ⊢
  have HL := Lib.hid hL
  clear hs hL
  go_enter Tryd.func34, Tryd.ntmps34
  go_wp2_with (at_builtin; refine stopAt ?_)
  unfold Hid
  refine wpList_appL rfl (.tmp 6) (.tmp 7) rfl rfl rfl (OwnB.fresh (Nat.le_refl _)) (HV.out.keep ((Same.refl _ _).alloc _)) (by simp) (by simp; omega) ?_
  intro u w1 hu hs1
  have HU := Lib.hid (show OwnB w1 w.heap.size u (bs ++ []) by simpa using hu)
  have HS1 : Hid (Same (fun _ => True) w w1) := Lib.hid (((Same.refl _ _).alloc _).trans' hs1 fun k hk _ => hk)
  clear hu hs1
  go_wp2
  go_loopw [1, 5] (fun vi o wr => ∃ (y : Nat) (acc : List UInt8), vi = .int .u64 y ∧ Hid (OwnB wr w.heap.size o (bs ++ acc)) ∧ Hid (Same (fun _ => True) w wr) ∧ Hid (acc ++ varL y = L) ∧ y < 18446744073709551616) (fun vi _ _ => (intOf vi).toNat)
  case atStart => exact ⟨x, [], rfl, HU, HS1, Lib.hid HL.out.symm, hx⟩
  case round =>
    obtain ⟨y, acc, rfl, ho, hsm, hacc, hy⟩ := hrel
    obtain ⟨A5, c5, rfl, hc5, hm5⟩ := ho.out.form
    have hal : acc.length ≤ 10 := by have := congrArg List.length hacc.out; rw [List.length_append] at this; omega
    clear HU HS1
    have hsz := hsm.out.size
    by_cases hge : 128 ≤ y
    · have hgI : (128 : Int) ≤ (y : Int) := by omega
      obtain ⟨c, hc⟩ : ∃ c, c = UInt8.ofNat (y % 128 + 128) := ⟨_, rfl⟩
      have hob : Hid (Value.int .u8 ((y : Int) % 128 + 128) = V8 c) := Lib.hid (by show Value.int .u8 ((y : Int) % 128 + 128) = .int .u8 (n8 c); rw [hc]; unfold n8; rw [UInt8.toNat_ofNat']; congr 1; omega)
      have hac' : Hid ((acc ++ [c]) ++ varL (y / 128) = L) := Lib.hid (by rw [← hacc.out, varL_step (y := y) (by omega), List.append_assoc, hc]; rfl)
      clear hge hc hacc
      go_wp2_with (at_builtin; refine stopAt ?_)
      unfold Hid
      rw [hob.out]
      refine wpList_appB1 (bs := bs ++ acc) (c := c) rfl (.tmp 11) (.tmp 16) rfl rfl rfl ho.out hsz (by rw [List.length_append]; omega) ?_
      intro v' w2 hown hs2
      have hown' : Hid (OwnB w2 w.heap.size v' (bs ++ (acc ++ [c]))) := Lib.hid (by rw [← List.append_assoc]; exact hown)
      have hsm' : Hid (Same (fun _ => True) w w2) := Lib.hid (hsm.out.trans' hs2 fun k hk _ => hk)
      clear hown hs2 ho hsm hob
      go_wp2
      go_roundw
      case rel => exact ⟨y / 128, _, by simp, hown', hsm', hac', by omega⟩
      case measure => simp [intOf]; omega
    · have hlI : (y : Int) < 128 := by omega
      obtain ⟨c, hc⟩ : ∃ c, c = UInt8.ofNat y := ⟨_, rfl⟩
      have hob : Hid (Value.int .u8 (y : Int) = V8 c) := Lib.hid (by show Value.int .u8 (y : Int) = .int .u8 (n8 c); rw [hc]; unfold n8; rw [UInt8.toNat_ofNat']; congr 1; omega)
      have hL' : Hid (acc ++ [c] = L) := Lib.hid (by rw [← hacc.out, varL_last (y := y) (by omega), hc])
      clear hge hc hacc
      go_wp2_with (at_builtin; refine stopAt ?_)
      unfold Hid
      rw [hob.out]
      refine wpList_appB1 (bs := bs ++ acc) (c := c) rfl (.tmp 20) (.tmp 23) rfl rfl rfl ho.out hsz (by rw [List.length_append]; omega) ?_
      intro v' w2 hown hs2
      have hown' : Hid (OwnB w2 w.heap.size v' (bs ++ L)) := Lib.hid (by rw [← hL'.out, ← List.append_assoc]; exact hown)
      have hsm' : Hid (Same (fun _ => True) w w2) := Lib.hid (hsm.out.trans' hs2 fun k hk _ => hk)
      clear hown hs2 ho hsm hob
      go_wp2
      go_ret
      exact ⟨_, rfl, hown'.out, hsm'.out⟩
end Go.Proofs.YtpbekhcogpkbpaaDoor
