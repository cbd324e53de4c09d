/-
  The walks of package bits (Put, Get) and of the document's (antipoderef1: Put, Get, Eight): numbers laid into bytes, and read.
-/
import Derived.Test.YtpbekhcogpkbpaaDoorLibB
import Derived.Lib.Strings
import Derived.Lib.Slices
import Derived.Lib.Small
import Derived.Lib.BitFns
import Derived.Lib.Tables
import Derived.Lib.Walk
import Derived.IntWalk
set_option linter.unusedSimpArgs false
set_option linter.unusedVariables false
namespace Go.Proofs.YtpbekhcogpkbpaaDoor
open Go.RowKit

theorem len8_bd (b : Int) (h0 : 0 ≤ b) (h1 : b ≤ 255) : 0 ≤ Lib.len8 b ∧ Lib.len8 b ≤ 8 := by
  rw [Lib.len8_of b h0 h1]
  have := Lib.bitLen_le8' b h0 h1
  omega
set_option maxRecDepth 100000 in
theorem len64_0 (x : Int) (w : World) (h0 : 0 ≤ x) (hlo : 0 ≤ x) (hhi : x < 256) :
    Calls Tryd.prog 58 #[.int .u64 x] w fun e w' => e = .returned (.int .i64 (Lib.bitLen x.toNat)) ∧ w = w' := by
  have hb0 : 0 ≤ x := by omega
  have hb1 : x ≤ 255 := by omega
  have hi := fun w => Lib.run_index_len8tab (P := Tryd.prog) w 9 .u8 (x) Tryd.underlying9 hb0 hb1
  obtain ⟨n, hn⟩ : ∃ n, n = Lib.len8 (x) := ⟨_, rfl⟩
  have hl := len8_bd (x) hb0 hb1
  rw [← hn] at hi hl
  have Hn := Lib.hid hn
  obtain ⟨l0, l1⟩ := hl
  clear hn
  go_enter Tryd.func58, Tryd.ntmps58
  go_wp2
  go_ret
  refine ⟨congrArg Ending.returned (congrArg (Value.int IntKind.i64) ?_), rfl⟩
  show (n : Int) = _
  rw [Hn.out, Lib.len8_of (x) hb0 hb1]
set_option maxRecDepth 100000 in
theorem len64_1 (x : Int) (w : World) (h0 : 0 ≤ x) (hlo : 256 ≤ x) (hhi : x < 65536) :
    Calls Tryd.prog 58 #[.int .u64 x] w fun e w' => e = .returned (.int .i64 (Lib.bitLen x.toNat)) ∧ w = w' := by
  have hb0 : 0 ≤ x / 256 := by omega
  have hb1 : x / 256 ≤ 255 := by omega
  have hi := fun w => Lib.run_index_len8tab (P := Tryd.prog) w 9 .u8 (x / 256) Tryd.underlying9 hb0 hb1
  obtain ⟨n, hn⟩ : ∃ n, n = Lib.len8 (x / 256) := ⟨_, rfl⟩
  have hl := len8_bd (x / 256) hb0 hb1
  rw [← hn] at hi hl
  have Hn := Lib.hid hn
  obtain ⟨l0, l1⟩ := hl
  clear hn
  go_enter Tryd.func58, Tryd.ntmps58
  go_wp2
  go_ret
  refine ⟨congrArg Ending.returned (congrArg (Value.int IntKind.i64) ?_), rfl⟩
  show (8 + n : Int) = _
  rw [Hn.out, Lib.len8_of (x / 256) hb0 hb1]
  have e : (x / 256).toNat = x.toNat / 256 := by omega
  have l := Lib.bitLen_le8' (x / 256) hb0 hb1
  have s := Lib.bitLen_shift8 x.toNat (by omega) (by omega)
  rw [e] at l ⊢
  omega
set_option maxRecDepth 100000 in
theorem len64_2 (x : Int) (w : World) (h0 : 0 ≤ x) (hlo : 65536 ≤ x) (hhi : x < 16777216) :
    Calls Tryd.prog 58 #[.int .u64 x] w fun e w' => e = .returned (.int .i64 (Lib.bitLen x.toNat)) ∧ w = w' := by
  have hb0 : 0 ≤ x / 65536 := by omega
  have hb1 : x / 65536 ≤ 255 := by omega
  have hi := fun w => Lib.run_index_len8tab (P := Tryd.prog) w 9 .u8 (x / 65536) Tryd.underlying9 hb0 hb1
  obtain ⟨n, hn⟩ : ∃ n, n = Lib.len8 (x / 65536) := ⟨_, rfl⟩
  have hl := len8_bd (x / 65536) hb0 hb1
  rw [← hn] at hi hl
  have Hn := Lib.hid hn
  obtain ⟨l0, l1⟩ := hl
  clear hn
  go_enter Tryd.func58, Tryd.ntmps58
  go_wp2
  go_ret
  refine ⟨congrArg Ending.returned (congrArg (Value.int IntKind.i64) ?_), rfl⟩
  show (16 + n : Int) = _
  rw [Hn.out, Lib.len8_of (x / 65536) hb0 hb1]
  have e : (x / 65536).toNat = x.toNat / 65536 := by omega
  have l := Lib.bitLen_le8' (x / 65536) hb0 hb1
  have s := Lib.bitLen_shift16 x.toNat (by omega) (by omega)
  rw [e] at l ⊢
  omega
set_option maxRecDepth 100000 in
theorem len64_3 (x : Int) (w : World) (h0 : 0 ≤ x) (hlo : 16777216 ≤ x) (hhi : x < 4294967296) :
    Calls Tryd.prog 58 #[.int .u64 x] w fun e w' => e = .returned (.int .i64 (Lib.bitLen x.toNat)) ∧ w = w' := by
  have hb0 : 0 ≤ x / 65536 / 256 := by omega
  have hb1 : x / 65536 / 256 ≤ 255 := by omega
  have hi := fun w => Lib.run_index_len8tab (P := Tryd.prog) w 9 .u8 (x / 65536 / 256) Tryd.underlying9 hb0 hb1
  obtain ⟨n, hn⟩ : ∃ n, n = Lib.len8 (x / 65536 / 256) := ⟨_, rfl⟩
  have hl := len8_bd (x / 65536 / 256) hb0 hb1
  rw [← hn] at hi hl
  have Hn := Lib.hid hn
  obtain ⟨l0, l1⟩ := hl
  clear hn
  go_enter Tryd.func58, Tryd.ntmps58
  go_wp2
  go_ret
  refine ⟨congrArg Ending.returned (congrArg (Value.int IntKind.i64) ?_), rfl⟩
  show (24 + n : Int) = _
  rw [Hn.out, Lib.len8_of (x / 65536 / 256) hb0 hb1]
  have e : (x / 65536 / 256).toNat = x.toNat / 16777216 := by omega
  have l := Lib.bitLen_le8' (x / 65536 / 256) hb0 hb1
  have s := Lib.bitLen_shift24 x.toNat (by omega) (by omega)
  rw [e] at l ⊢
  omega
set_option maxRecDepth 100000 in
theorem len64_4 (x : Int) (w : World) (h0 : 0 ≤ x) (hlo : 4294967296 ≤ x) (hhi : x < 1099511627776) :
    Calls Tryd.prog 58 #[.int .u64 x] w fun e w' => e = .returned (.int .i64 (Lib.bitLen x.toNat)) ∧ w = w' := by
  have hb0 : 0 ≤ x / 4294967296 := by omega
  have hb1 : x / 4294967296 ≤ 255 := by omega
  have hi := fun w => Lib.run_index_len8tab (P := Tryd.prog) w 9 .u8 (x / 4294967296) Tryd.underlying9 hb0 hb1
  obtain ⟨n, hn⟩ : ∃ n, n = Lib.len8 (x / 4294967296) := ⟨_, rfl⟩
  have hl := len8_bd (x / 4294967296) hb0 hb1
  rw [← hn] at hi hl
  have Hn := Lib.hid hn
  obtain ⟨l0, l1⟩ := hl
  clear hn
  go_enter Tryd.func58, Tryd.ntmps58
  go_wp2
  go_ret
  refine ⟨congrArg Ending.returned (congrArg (Value.int IntKind.i64) ?_), rfl⟩
  show (32 + n : Int) = _
  rw [Hn.out, Lib.len8_of (x / 4294967296) hb0 hb1]
  have e : (x / 4294967296).toNat = x.toNat / 4294967296 := by omega
  have l := Lib.bitLen_le8' (x / 4294967296) hb0 hb1
  have s := Lib.bitLen_shift32 x.toNat (by omega) (by omega)
  rw [e] at l ⊢
  omega
set_option maxRecDepth 100000 in
theorem len64_5 (x : Int) (w : World) (h0 : 0 ≤ x) (hlo : 1099511627776 ≤ x) (hhi : x < 281474976710656) :
    Calls Tryd.prog 58 #[.int .u64 x] w fun e w' => e = .returned (.int .i64 (Lib.bitLen x.toNat)) ∧ w = w' := by
  have hb0 : 0 ≤ x / 4294967296 / 256 := by omega
  have hb1 : x / 4294967296 / 256 ≤ 255 := by omega
  have hi := fun w => Lib.run_index_len8tab (P := Tryd.prog) w 9 .u8 (x / 4294967296 / 256) Tryd.underlying9 hb0 hb1
  obtain ⟨n, hn⟩ : ∃ n, n = Lib.len8 (x / 4294967296 / 256) := ⟨_, rfl⟩
  have hl := len8_bd (x / 4294967296 / 256) hb0 hb1
  rw [← hn] at hi hl
  have Hn := Lib.hid hn
  obtain ⟨l0, l1⟩ := hl
  clear hn
  go_enter Tryd.func58, Tryd.ntmps58
  go_wp2
  go_ret
  refine ⟨congrArg Ending.returned (congrArg (Value.int IntKind.i64) ?_), rfl⟩
  show (40 + n : Int) = _
  rw [Hn.out, Lib.len8_of (x / 4294967296 / 256) hb0 hb1]
  have e : (x / 4294967296 / 256).toNat = x.toNat / 1099511627776 := by omega
  have l := Lib.bitLen_le8' (x / 4294967296 / 256) hb0 hb1
  have s := Lib.bitLen_shift40 x.toNat (by omega) (by omega)
  rw [e] at l ⊢
  omega
set_option maxRecDepth 100000 in
theorem len64_6 (x : Int) (w : World) (h0 : 0 ≤ x) (hlo : 281474976710656 ≤ x) (hhi : x < 72057594037927936) :
    Calls Tryd.prog 58 #[.int .u64 x] w fun e w' => e = .returned (.int .i64 (Lib.bitLen x.toNat)) ∧ w = w' := by
  have hb0 : 0 ≤ x / 4294967296 / 65536 := by omega
  have hb1 : x / 4294967296 / 65536 ≤ 255 := by omega
  have hi := fun w => Lib.run_index_len8tab (P := Tryd.prog) w 9 .u8 (x / 4294967296 / 65536) Tryd.underlying9 hb0 hb1
  obtain ⟨n, hn⟩ : ∃ n, n = Lib.len8 (x / 4294967296 / 65536) := ⟨_, rfl⟩
  have hl := len8_bd (x / 4294967296 / 65536) hb0 hb1
  rw [← hn] at hi hl
  have Hn := Lib.hid hn
  obtain ⟨l0, l1⟩ := hl
  clear hn
  go_enter Tryd.func58, Tryd.ntmps58
  go_wp2
  go_ret
  refine ⟨congrArg Ending.returned (congrArg (Value.int IntKind.i64) ?_), rfl⟩
  show (48 + n : Int) = _
  rw [Hn.out, Lib.len8_of (x / 4294967296 / 65536) hb0 hb1]
  have e : (x / 4294967296 / 65536).toNat = x.toNat / 281474976710656 := by omega
  have l := Lib.bitLen_le8' (x / 4294967296 / 65536) hb0 hb1
  have s := Lib.bitLen_shift48 x.toNat (by omega) (by omega)
  rw [e] at l ⊢
  omega
set_option maxRecDepth 100000 in
theorem len64_7 (x : Int) (w : World) (h0 : 0 ≤ x) (hlo : 72057594037927936 ≤ x) (hhi : x < 18446744073709551616) :
    Calls Tryd.prog 58 #[.int .u64 x] w fun e w' => e = .returned (.int .i64 (Lib.bitLen x.toNat)) ∧ w = w' := by
  have hb0 : 0 ≤ x / 4294967296 / 65536 / 256 := by omega
  have hb1 : x / 4294967296 / 65536 / 256 ≤ 255 := by omega
  have hi := fun w => Lib.run_index_len8tab (P := Tryd.prog) w 9 .u8 (x / 4294967296 / 65536 / 256) Tryd.underlying9 hb0 hb1
  obtain ⟨n, hn⟩ : ∃ n, n = Lib.len8 (x / 4294967296 / 65536 / 256) := ⟨_, rfl⟩
  have hl := len8_bd (x / 4294967296 / 65536 / 256) hb0 hb1
  rw [← hn] at hi hl
  have Hn := Lib.hid hn
  obtain ⟨l0, l1⟩ := hl
  clear hn
  go_enter Tryd.func58, Tryd.ntmps58
  go_wp2
  go_ret
  refine ⟨congrArg Ending.returned (congrArg (Value.int IntKind.i64) ?_), rfl⟩
  show (56 + n : Int) = _
  rw [Hn.out, Lib.len8_of (x / 4294967296 / 65536 / 256) hb0 hb1]
  have e : (x / 4294967296 / 65536 / 256).toNat = x.toNat / 72057594037927936 := by omega
  have l := Lib.bitLen_le8' (x / 4294967296 / 65536 / 256) hb0 hb1
  have s := Lib.bitLen_shift56 x.toNat (by omega) (by omega)
  rw [e] at l ⊢
  omega
theorem len64_any (x : Int) (w : World) (h0 : 0 ≤ x) (h1 : x ≤ 18446744073709551615) :
    Calls Tryd.prog 58 #[.int .u64 x] w fun e w' => e = .returned (.int .i64 (Lib.bitLen x.toNat)) ∧ w = w' := by
  by_cases c0 : x < 256
  · exact len64_0 x w h0 (by omega) c0
  by_cases c1 : x < 65536
  · exact len64_1 x w h0 (by omega) c1
  by_cases c2 : x < 16777216
  · exact len64_2 x w h0 (by omega) c2
  by_cases c3 : x < 4294967296
  · exact len64_3 x w h0 (by omega) c3
  by_cases c4 : x < 1099511627776
  · exact len64_4 x w h0 (by omega) c4
  by_cases c5 : x < 281474976710656
  · exact len64_5 x w h0 (by omega) c5
  by_cases c6 : x < 72057594037927936
  · exact len64_6 x w h0 (by omega) c6
  exact len64_7 x w h0 (by omega) (by omega)
def OwnPost (bs : List UInt8) (w : World) (e : Ending) (w' : World) : Prop := ∃ u, e = .returned u ∧ OwnB w' w.heap.size u bs ∧ Same (fun _ => True) w w'
set_option maxRecDepth 100000 in
theorem room_any (v : Value) (bs : List UInt8) (n : Int) (S : Nat → Prop) (w : World) (hv : By w S v bs) (hl : bs.length ≤ 10000000) (h0 : 0 ≤ n) (h1 : n ≤ 1000) :
    Calls Tryd.prog 59 #[v, .int .i64 n] w (OwnPost bs w) := by
  obtain ⟨A, cap, rfl, hc1, hm, hs⟩ := hv
  have HV : Hid (By w S (.slice A bs.length cap) bs) := Lib.hid ⟨A, cap, rfl, hc1, hm, hs⟩
  obtain ⟨n, rfl⟩ := Int.eq_ofNat_of_zero_le h0
  unfold maxLen at hm
  go_enter Tryd.func59, Tryd.ntmps59
  go_wp2_with (first | (at_make; refine wpList_mk2 T8 _ rfl _ _ rfl .i64 .i64 _ _ 0 (bs.length + n) rfl rfl (by simp) (by simp) (by omega) (by omega) (by simp only [maxLen]; omega) ?_; intro w1 hr1 hs1 hz1) | (at_builtin; refine stopAt ?_))
  unfold Hid
  refine wpList_appB rfl (.tmp 9) (.tmp 10) rfl rfl rfl (OwnB.made hr1 (by simp only [maxLen]; omega)) (HV.out.keep (hs1.mono fun _ _ _ => trivial)) (by omega) (by simp; omega) ?_
  intro v' w2 hown hs2 _
  go_wp2
  go_ret
  refine ⟨_, rfl, hown, hs1.trans' hs2 fun k hk _ e => ?_⟩
  have e : some k = some w.heap.size := e
  injection e with e
  omega
/-- A number in n bytes. -/
def putN (n v : Nat) : List UInt8 := (List.range n).map fun i => UInt8.ofNat (v / 256 ^ (n - 1 - i))
theorem putN_len (n v : Nat) : (putN n v).length = n := by simp [putN]
theorem putN_take (n v j : Nat) (h : j < n) : (putN n v).take (j + 1) = (putN n v).take j ++ [UInt8.ofNat (v / 256 ^ (n - 1 - j))] := by
  rw [List.take_succ_eq_append_getElem (by simpa [putN] using h)]
  simp [putN]
theorem shr_byte (x s : Nat) : ((x : Int) / 2 ^ (8 * s) % 256) = n8 (UInt8.ofNat (x / 256 ^ s)) := by
  unfold n8
  rw [UInt8.toNat_ofNat']
  have e : (256 : Nat) ^ s = 2 ^ (8 * s) := by rw [Nat.pow_mul]
  rw [e, Int.natCast_emod, Int.natCast_ediv, Int.natCast_pow]
  rfl
set_option maxRecDepth 100000 in
set_option maxHeartbeats 1000000 in
theorem put_any (v : Value) (bs : List UInt8) (x : Nat) (n : Nat) (S : Nat → Prop) (w : World) (hv : By w S v bs) (hl : bs.length ≤ 9000000) (hn : 1 ≤ n ∧ n ≤ 8) (hx : x < 2 ^ (8 * n)) :
    Calls Tryd.prog 27 #[v, .int .u64 x, .int .i64 n] w fun e w' => ∃ u, e = .returned (.tuple #[u, .int .i64 0]) ∧ OwnB w' w.heap.size u (bs ++ putN n x) ∧ Same (fun _ => True) w w' := by
  have hx64 : x < 2 ^ 64 := Nat.lt_of_lt_of_le hx (Nat.pow_le_pow_right (by omega) (by omega))
  have hlen := len64_any (x : Int) w (by omega) (by omega)
  have hble := Lib.bitLen_le x (8 * n) (by omega) hx
  rw [Int.toNat_natCast] at hlen
  generalize Lib.bitLen x = L at hlen hble
  have hroom := room_any v bs (n : Int) S w hv (by omega) (by omega) (by omega)
  obtain ⟨A, cap, rfl, hc1, hm, hs⟩ := hv
  unfold maxLen at hm
  have hleI : (L : Int) ≤ 8 * (n : Int) := by omega
  clear hs hble hx hx64
  go_enter Tryd.func27, Tryd.ntmps27
  go_wp2_with (first | (go_at_call 58; refine hlen.mono ?_; rintro e w' ⟨rfl, rfl⟩) | (go_at_call 59; refine hroom.mono ?_; rintro e w1 ⟨u, rfl, hu, hs1⟩))
  have hHs := Lib.hid hs1
  have hHu := Lib.hid (show OwnB w1 w.heap.size u (bs ++ (putN n x).take 0) by simpa using hu)
  have hz1 := hs1.size
  clear hs1 hu hlen hroom
  go_loopw [8, 9] (fun o i wr => ∃ j : Nat, j ≤ n ∧ i = .int .i64 (8 * ((n : Int) - 1 - j)) ∧ Hid (OwnB wr w.heap.size o (bs ++ (putN n x).take j)) ∧ Hid (Same (fun _ => True) w wr)) (fun _ i _ => (intOf i + 8).toNat)
  case atStart => exact ⟨0, by omega, by simp, hHu, hHs⟩
  case round =>
    obtain ⟨j, hj, rfl, ho, hsm⟩ := hrel
    obtain ⟨A5, c5, rfl, hc5, hm5⟩ := ho.out.form
    clear hHu hHs
    by_cases hlt : j < n
    · obtain ⟨s, hs⟩ : ∃ s : Nat, s = n - 1 - j := ⟨_, rfl⟩
      have hs8 : s ≤ 7 := by omega
      have hsI : 8 * ((n : Int) - 1 - j) = 8 * (s : Int) := by omega
      rw [hsI]
      have Hs := Lib.hid hs
      have HsI := Lib.hid hsI
      clear hs hsI
      have hsz := hsm.out.size
      go_wp2_with (at_builtin; refine stopAt ?_)
      unfold Hid
      rw [shr_byte x s]
      refine wpList_appB rfl (.tmp 31) (.tmp 37) rfl rfl rfl (ho.out.keepAll ((Same.refl _ _).alloc (.cells #[V8 (UInt8.ofNat (x / 256 ^ s))] 5))) (By.lit (S := fun _ => True) (bs := [UInt8.ofNat (x / 256 ^ s)]) (fr := (0, 0)) (e := 5) (heap_now rfl) trivial rfl (by omega) (by simp [maxLen])) (by simp; omega) (by simp [putN_len]; omega) ?_
      intro v' w2 hown hs2 _
      have hown' : Hid (OwnB w2 w.heap.size v' (bs ++ (putN n x).take (j + 1))) := Lib.hid (by rw [putN_take n x j hlt, ← Hs.out, ← List.append_assoc]; exact hown)
      have hsm' : Hid (Same (fun _ => True) w w2) := Lib.hid ((hsm.out.trans ((Same.refl _ _).alloc _)).trans' hs2 fun k hk _ e => by have := ho.out.lt_ e.symm; omega)
      clear hown hs2 ho hsm
      go_wp2
      go_roundw
      case rel => exact ⟨j + 1, by omega, by rw [← HsI.out]; congr 1; omega, hown', hsm'⟩
      case measure => simp [intOf]; omega
    · obtain rfl : j = n := by omega
      have hI : (8 * ((j : Int) - 1 - j)) = -8 := by omega
      rw [hI]
      rw [List.take_of_length_le (by rw [putN_len]; omega)] at ho ⊢
      go_wp2
      go_ret2
      exact ⟨_, rfl, ho.out, hsm.out⟩
/-- The number that bytes make. -/
def getN (l : List UInt8) : Nat := l.foldl (fun v c => v * 256 + c.toNat) 0
theorem getN_snoc (l : List UInt8) (c : UInt8) : getN (l ++ [c]) = getN l * 256 + c.toNat := by simp [getN]
theorem getN_from : ∀ (l : List UInt8) (v : Nat), l.foldl (fun v c => v * 256 + c.toNat) v < (v + 1) * 256 ^ l.length
  | [], v => by simp
  | c :: l, v => by
    have h := getN_from l (v * 256 + c.toNat)
    have hc := c.toNat_lt
    rw [List.foldl_cons, List.length_cons, Nat.pow_succ, Nat.mul_comm (256 ^ l.length) 256, ← Nat.mul_assoc]
    exact Nat.lt_of_lt_of_le h (Nat.mul_le_mul_right _ (by omega))
theorem getN_lt (l : List UInt8) : getN l < 256 ^ l.length := by
  have := getN_from l 0
  simpa [getN] using this
theorem getN_lt' (l : List UInt8) (h : l.length ≤ 7) : getN l < 72057594037927936 :=
  Nat.lt_of_lt_of_le (getN_lt l) (Nat.le_trans (Nat.pow_le_pow_right (by omega) h) (by decide))
theorem getN_step (l : List UInt8) (k : Nat) (h : k < l.length) : getN (l.take (k + 1)) = getN (l.take k) * 256 + (l[k]).toNat := by
  rw [List.take_succ_eq_append_getElem h, getN_snoc]
set_option maxRecDepth 100000 in
set_option maxHeartbeats 1000000 in
theorem get_any (v : Value) (bs : List UInt8) (at_ n : Nat) (S : Nat → Prop) (w : World) (hv : By w S v bs) (hn : 1 ≤ n ∧ n ≤ 8) (hat : at_ + n ≤ bs.length) :
    Calls Tryd.prog 46 #[v, .int .i64 at_, .int .i64 n] w fun e w' => e = .returned (.tuple #[.int .u64 (getN ((bs.drop at_).take n)), .int .i64 0]) ∧ w = w' := by
  obtain ⟨A, cap, rfl, hc1, hm, hs⟩ := hv
  have HS := Lib.hid hs
  obtain ⟨ad, rfl, -⟩ := hs.2 (by omega)
  unfold maxLen at hm
  clear hs
  have hne : ¬ cap = at_ := by omega
  obtain ⟨l, hl⟩ : ∃ l, l = (bs.drop at_).take n := ⟨_, rfl⟩
  have hln : l.length = n := by rw [hl]; simp; omega
  have hcl : ∀ k (h : k < l.length), w.cell? ((ad.add at_).add k) = some (V8 l[k]) := fun k h => by
    obtain ⟨ad', u, e, -, hu, hc⟩ := HS.out.at_ (k := at_ + k) (by omega)
    injection e with e
    subst e
    rw [add_of_add, hc]
    subst hl
    simp [show at_ + k < bs.length from by omega] at hu
    rw [← hu]
    simp
  rw [← hl]
  have HC := Lib.hid hcl
  have Hln := Lib.hid hln
  clear hl hcl hln
  go_enter Tryd.func46, Tryd.ntmps46
  go_wp2
  rw [show at_ + n - at_ = n from by omega]
  go_loop [8, 36] (fun v i => ∃ k : Nat, k ≤ n ∧ i = .int .i64 k ∧ v = .int .u64 (getN (l.take k) : Nat)) (fun _ i => n - (intOf i).toNat)
  case atStart => exact ⟨0, by omega, rfl, rfl⟩
  case round =>
    obtain ⟨k, hk, rfl, rfl⟩ := hrel
    by_cases hlt : k < n
    · have hkl : k < l.length := by rw [Hln.out]; exact hlt
      have hcell := HC.out k hkl
      have hb := getN_lt' (l.take k) (by simp; omega)
      have hstep := Lib.hid (getN_step l k hkl)
      obtain ⟨c, hc⟩ : ∃ c, c = l[k] := ⟨_, rfl⟩
      rw [← hc] at hcell hstep
      have hcb := n8_bd c
      clear hc
      go_wp2
      exact ⟨⟨k + 1, by omega, by go_num, by rw [hstep.out]; unfold n8; simp⟩, by simp [intOf]; omega⟩
    · obtain rfl : k = n := by omega
      rw [List.take_of_length_le (by rw [Hln.out]; omega)]
      go_wp2
      go_ret2
      exact ⟨rfl, rfl⟩
set_option maxRecDepth 100000 in
set_option maxHeartbeats 1000000 in
theorem refget_any (v : Value) (bs : List UInt8) (at_ n : Nat) (S : Nat → Prop) (w : World) (hv : By w S v bs) (hn : 1 ≤ n ∧ n ≤ 8) (hat : at_ + n ≤ bs.length) :
    Calls Tryd.prog 49 #[v, .int .i64 at_, .int .i64 n] w fun e w' => e = .returned (.tuple #[.int .u64 (getN ((bs.drop at_).take n)), .int .i64 0]) ∧ w = w' := by
  obtain ⟨A, cap, rfl, hc1, hm, hs⟩ := hv
  have HS := Lib.hid hs
  obtain ⟨ad, rfl, -⟩ := hs.2 (by omega)
  unfold maxLen at hm
  clear hs
  have hne : ¬ cap = at_ := by omega
  obtain ⟨l, hl⟩ : ∃ l, l = (bs.drop at_).take n := ⟨_, rfl⟩
  have hln : l.length = n := by rw [hl]; simp; omega
  have hcl : ∀ k (h : k < l.length), w.cell? (ad.add (at_ + k)) = some (V8 l[k]) := fun k h => by
    obtain ⟨ad', u, e, -, hu, hc⟩ := HS.out.at_ (k := at_ + k) (by omega)
    injection e with e
    subst e
    rw [hc]
    subst hl
    simp [show at_ + k < bs.length from by omega] at hu
    rw [← hu]
    simp
  rw [← hl]
  have HC := Lib.hid hcl
  have Hln := Lib.hid hln
  clear hl hcl hln
  go_enter Tryd.func49, Tryd.ntmps49
  go_wp2
  go_loop [8, 9] (fun v i => ∃ k : Nat, k ≤ n ∧ i = .int .i64 k ∧ v = .int .u64 (getN (l.take k) : Nat)) (fun _ i => n - (intOf i).toNat)
  case atStart => exact ⟨0, by omega, rfl, rfl⟩
  case round =>
    obtain ⟨k, hk, rfl, rfl⟩ := hrel
    by_cases hlt : k < n
    · have hkl : k < l.length := by rw [Hln.out]; exact hlt
      have hcell := HC.out k hkl
      have hb := getN_lt' (l.take k) (by simp; omega)
      have hstep := Lib.hid (getN_step l k hkl)
      obtain ⟨c, hc⟩ : ∃ c, c = l[k] := ⟨_, rfl⟩
      rw [← hc] at hcell hstep
      have hcb := n8_bd c
      clear hc
      go_wp2
      exact ⟨⟨k + 1, by omega, by go_num, by rw [hstep.out]; unfold n8; simp⟩, by simp [intOf]; omega⟩
    · obtain rfl : k = n := by omega
      rw [List.take_of_length_le (by rw [Hln.out]; omega)]
      go_wp2
      go_ret2
      exact ⟨rfl, rfl⟩
theorem putN_drop (n x j : Nat) (h : j < n) : (putN n x).drop (n - 1 - j) = UInt8.ofNat (x / 256 ^ j) :: (putN n x).drop (n - j) := by
  have e : n - 1 - j < (putN n x).length := by rw [putN_len]; omega
  rw [List.drop_eq_getElem_cons e]
  have e1 : n - 1 - j + 1 = n - j := by omega
  rw [e1]
  congr 1
  simp only [putN, List.getElem_map, List.getElem_range]
  rw [show n - 1 - (n - 1 - j) = j from by omega]
/-- The bytes of the document's Put behind j rounds. -/
def putTo (n x j : Nat) : List UInt8 := List.replicate (n - j) 0 ++ (putN n x).drop (n - j)
theorem putTo_set (n x j : Nat) (h : j < n) : (cs8 (putTo n x j)).set (n - 1 - j) (V8 (UInt8.ofNat (x / 256 ^ j))) = cs8 (putTo n x (j + 1)) := by
  have e : n - j = (n - 1 - j) + 1 := by omega
  have e2 : n - (j + 1) = n - 1 - j := by omega
  have hd := putN_drop n x j h
  unfold putTo
  rw [e2, hd, e, List.replicate_succ']
  rw [show n - 1 - j + 1 = n - j from by omega]
  simp [cs8, List.set_append]
theorem putTo_done (n x : Nat) : putTo n x n = putN n x := by simp [putTo]
theorem putTo_len (n x j : Nat) (h : j ≤ n) : (putTo n x j).length = n := by simp [putTo, putN_len] <;> omega
theorem mod_byte (y : Nat) : ((y : Int) % 256) = n8 (UInt8.ofNat y) := by
  unfold n8
  rw [UInt8.toNat_ofNat', Int.natCast_emod]
  rfl
set_option maxRecDepth 100000 in
set_option maxHeartbeats 1000000 in
theorem refput_any (v : Value) (bs : List UInt8) (x : Nat) (n : Nat) (S : Nat → Prop) (w : World) (hv : By w S v bs) (hl : bs.length ≤ 9000000) (hn : 1 ≤ n ∧ n ≤ 8) (hx : x < 2 ^ (8 * n)) :
    Calls Tryd.prog 60 #[v, .int .u64 x, .int .i64 n] w fun e w' => ∃ u, e = .returned (.tuple #[u, .int .i64 0]) ∧ OwnB w' w.heap.size u (bs ++ putN n x) ∧ Same (fun _ => True) w w' := by
  have hx64 : x < 2 ^ 64 := Nat.lt_of_lt_of_le hx (Nat.pow_le_pow_right (by omega) (by omega))
  have Hx := Lib.hid hx
  obtain ⟨A, cap, rfl, hc1, hm, hs⟩ := hv
  have HV : Hid (By w S (.slice A bs.length cap) bs) := Lib.hid ⟨A, cap, rfl, hc1, hm, hs⟩
  unfold maxLen at hm
  clear hs hx
  go_enter Tryd.func60, Tryd.ntmps60
  go_wp2_with (at_make; refine wpList_mk T8 _ rfl _ _ rfl .i64 .i64 _ _ n rfl rfl rfl rfl (by omega) (by simp only [maxLen]; omega) ?_; intro w1 hr1 hs1 hz1; rw [made8] at hr1)
  have hr0 : Hid (Row w1 w.heap.size 5 (cs8 (putTo n x 0))) := Lib.hid (by
    have e : cs8 (putTo n x 0) = List.replicate n (V8 0) := by simp [putTo, cs8, List.drop_eq_nil_of_le, putN_len]
    rw [e]; exact hr1)
  have Hs1 := Lib.hid hs1
  clear hr1 hs1
  go_loopw [1, 9] (fun y i wr => ∃ j : Nat, j ≤ n ∧ i = .int .i64 ((n : Int) - 1 - j) ∧ y = .int .u64 (x / 256 ^ j : Nat) ∧ Hid (Row wr w.heap.size 5 (cs8 (putTo n x j))) ∧ Hid (Same (fun _ => True) w wr)) (fun _ i _ => (intOf i + 1).toNat)
  case atStart => exact ⟨0, by omega, by simp, by simp, hr0, Hs1⟩
  case round =>
    obtain ⟨j, hj, rfl, rfl, hr, hsm⟩ := hrel
    clear hr0 Hs1
    have hyl : x / 256 ^ j ≤ x := Nat.div_le_self _ _
    by_cases hlt : j < n
    · obtain ⟨s, hs⟩ : ∃ s : Nat, s = n - 1 - j := ⟨_, rfl⟩
      have hsI : ((n : Int) - 1 - j) = (s : Int) := by omega
      rw [hsI]
      have HsI := Lib.hid hsI
      have Hs := Lib.hid hs
      have hsn : s < n := by omega
      have hst := Lib.hid (show (cs8 (putTo n x j)).set s (V8 (UInt8.ofNat (x / 256 ^ j))) = cs8 (putTo n x (j + 1)) by rw [hs]; exact putTo_set n x j hlt)
      have hdiv := Lib.hid (show x / 256 ^ j / 256 = x / 256 ^ (j + 1) by rw [Nat.div_div_eq_div_mul, Nat.pow_succ])
      have hfr := hr.out.frozen s
      obtain ⟨u, hu⟩ : ∃ u, (cs8 (putTo n x j))[s]? = some u := ⟨_, List.getElem?_eq_getElem (by simp [cs8, putTo_len n x j hj] <;> omega)⟩
      have hcell := hr.out.cell s
      rw [hu] at hcell
      clear hs hsI hu
      generalize x / 256 ^ j = y at *
      go_wp2
      refine ⟨⟨j + 1, by omega, congrArg (Value.int .i64) (by have := HsI.out; omega), by rw [← hdiv.out]; rfl, Lib.hid ?_, Lib.hid (hsm.out.setCell (fun h => absurd h (Nat.lt_irrefl _)) _)⟩, by simp [intOf] <;> omega⟩
      rw [mod_byte]
      have h2 := hr.out.set_ s (V8 (UInt8.ofNat y))
      rw [hst.out] at h2
      exact h2
    · obtain rfl : j = n := by omega
      have hI : ((j : Int) - 1 - j) = -1 := by omega
      rw [hI]
      have h0 : x / 256 ^ j = 0 := Nat.div_eq_of_lt (Nat.lt_of_lt_of_eq Hx.out (Nat.pow_mul 2 8 j))
      rw [h0]
      rw [putTo_done] at hr
      clear hyl h0
      have hrl := hr.out.lt
      go_wp2_with (at_builtin; refine stopAt ?_)
      unfold Hid
      have hsz := hsm.out.size
      refine wpList_appB rfl (.tmp 34) (.tmp 35) rfl rfl rfl (OwnB.fresh hsz) (HV.out.keep ((hsm.out.mono fun _ _ _ => trivial).trans ((Same.refl _ _).alloc _))) (by simp; omega) (by simp; omega) ?_
      intro v2 w2 hown2 hs2 hob
      have hr2 := (hr.out.keep ((Same.refl (fun _ => True) _).alloc _) trivial).keep hs2 (fun e => by
        have e : some w.heap.size = some wr.heap.size := e
        injection e with e
        omega)
      have hown2' := hown2
      obtain ⟨A5, c5, rfl, -, -⟩ := hown2.form
      go_wp2_with (at_builtin; refine stopAt ?_)
      unfold Hid
      have hz2 := hs2.size
      have hby2 := hr2.by_ (by rw [putN_len]; simp only [maxLen]; omega)
      rw [putN_len] at hby2
      refine wpList_appB rfl (.tmp 36) (.tmp 37) rfl rfl rfl hown2 hby2 (by simp at hz2; omega) (by simp [putN_len]; omega) ?_
      intro v3 w3 hown3 hs3 _
      go_wp2
      go_ret2
      refine ⟨_, rfl, hown3, ((hsm.out.trans ((Same.refl _ _).alloc _)).trans' hs2 fun k hk _ e => ?_).trans' hs3 fun k hk _ e => ?_⟩
      · have e : some k = some wr.heap.size := e
        injection e with e
        omega
      · rcases hob with h | h
        · have e : some k = some wr.heap.size := Eq.trans e h
          injection e with e
          omega
        · have e := Eq.trans e h
          injection e with e
          simp at e
          omega
end Go.Proofs.YtpbekhcogpkbpaaDoor
