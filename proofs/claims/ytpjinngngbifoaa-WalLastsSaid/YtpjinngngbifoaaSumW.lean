/-
  The walks of package sum and of the document's sum: what each call returns.
-/
import Derived.Test.YtpjinngngbifoaaRows
import Derived.Test.YtpjinngngbifoaaSumM
set_option linter.unusedSimpArgs false
set_option linter.unusedVariables false
namespace Go.Proofs.Ytpjinngngbifoaa
open Go.RowKit

/-! ### words of 32 bits in a walk -/
theorem u32_bits (op : BinOp) (f : BitVec 32 → BitVec 32 → BitVec 32) (hop : ∀ x y : Int, bits op .u32 x y = IntKind.u32.wrap (f (BitVec.ofInt 32 x) (BitVec.ofInt 32 y)).toNat) (a b : UInt32) :
    bits op .u32 (n32 a) (n32 b) = n32 (UInt32.ofBitVec (f a.toBitVec b.toBitVec)) := by
  rw [hop]; unfold n32; rw [u32_bv, u32_bv, u32_back]
@[go_sem] theorem u32_xor (a b : UInt32) : bits .xor .u32 (n32 a) (n32 b) = n32 (a ^^^ b) := u32_bits _ _ (fun _ _ => rfl) a b
@[go_sem] theorem u32_and (a b : UInt32) : bits .and .u32 (n32 a) (n32 b) = n32 (a &&& b) := u32_bits _ _ (fun _ _ => rfl) a b
@[go_sem] theorem u32_not (c : UInt32) : bits .xor .u32 IntKind.u32.max (n32 c) = n32 (~~~c) := by
  have h : IntKind.u32.max = n32 4294967295 := by decide
  rw [h, u32_xor]
  congr 1
@[go_sem] theorem u32_of8 (b : UInt8) : n8 b % (4294967296 : Int) = n32 b.toUInt32 := by
  have := n8_bd b
  rw [Int.emod_eq_of_lt (by omega) (by omega)]
  simp [n8, n32]
theorem u32_lit (k : Nat) (u : UInt32) (h : u.toNat = k) : ((k : Nat) : Int) = n32 u := by unfold n32; omega
@[go_sem] theorem u32_and1 (a : UInt32) : bits .and .u32 (n32 a) 1 = n32 (a &&& 1) := u32_and a 1
@[go_sem] theorem u32_andp (a : UInt32) : bits .and .u32 (n32 a) 2197175160 = n32 (a &&& 2197175160) := u32_and a 2197175160
@[go_sem] theorem u32_neg (a : UInt32) : -(n32 a) % (4294967296 : Int) = n32 (-a) := by
  have := a.toNat_lt
  have e : (-a).toNat = (4294967296 - a.toNat) % 4294967296 := by simp
  unfold n32
  rw [e]
  omega
@[go_sem] theorem u32_half (a : UInt32) : n32 a / (2 : Int) = n32 (a >>> 1) := by
  have e : (a >>> 1).toNat = a.toNat / 2 := by simp [Nat.shiftRight_eq_div_pow]
  unfold n32
  rw [e]
  omega
@[go_sem] theorem u32_add (a b : UInt32) : (n32 a + n32 b) % (4294967296 : Int) = n32 (a + b) := by
  unfold n32; rw [UInt32.toNat_add]; omega
@[go_sem] theorem u32_mod2 (a : UInt32) : n32 a % (2 : Int) = n32 (a % 2) := by
  unfold n32; rw [UInt32.toNat_mod]; rfl
@[go_sem] theorem u32_dbl (a : UInt32) : (n32 a * 2) % (4294967296 : Int) = n32 (a * 2) := by
  unfold n32; rw [UInt32.toNat_mul]; show _ = ((a.toNat * 2 % 4294967296 : Nat) : Int); omega
@[go_sem] theorem u32_tdiv2 (a : UInt32) : (n32 a).tdiv (2 : Int) % (4294967296 : Int) = n32 (a / 2) := by
  have := a.toNat_lt
  unfold n32; rw [UInt32.toNat_div]
  have e : ((a.toNat : Int).tdiv 2) = ((a.toNat / 2 : Nat) : Int) := by rw [Int.tdiv_eq_ediv_of_nonneg (by omega)]; omega
  rw [e]
  show _ = ((a.toNat / 2 : Nat) : Int)
  omega
@[go_sem] theorem u32_tmod2 (a : UInt32) : (n32 a).tmod (2 : Int) = n32 (a % 2) := by
  unfold n32; rw [UInt32.toNat_mod, Int.tmod_eq_emod_of_nonneg (by omega)]; rfl
@[go_sem] theorem u32_is1 (a : UInt32) : (n32 a == (1 : Int)) = (a == 1) := by
  rw [Bool.eq_iff_iff, beq_iff_eq, beq_iff_eq]
  exact n32_inj (b := 1)
@[go_sem] theorem u32_mod32 (a : UInt32) : n32 a % (4294967296 : Int) = n32 a := by
  have := n32_bd a
  exact Int.emod_eq_of_lt (by omega) (by omega)
theorem int32_eq {a b : Int} (h : a = b) : Value.int .u32 a = Value.int .u32 b := by rw [h]
theorem ret_int {k : IntKind} {a b : Int} (h : a = b) : Ending.returned (.int k a) = .returned (.int k b) := by rw [h]

set_option maxHeartbeats 400000 in
theorem more_any (c : UInt32) (v : Value) (bs : List UInt8) (S : Nat → Prop) (w : World) (hv : By w S v bs) :
    Calls Try.prog 78 #[.int .u32 (n32 c), v] w fun e w' => e = .returned (.int .u32 (n32 (moreF c bs))) ∧ w = w' := by
  obtain ⟨A, cap, rfl, hc1, hm, hs⟩ := hv
  unfold maxLen at hm
  go_enter Try.func78, Try.ntmps78
  go_wp2
  go_loop [0, 12] (fun r i => ∃ k : Nat, k ≤ bs.length ∧ i = .int .i64 k ∧ r = .int .u32 (n32 (crc (~~~c) (bs.take k)))) (fun _ i => bs.length - (intOf i).toNat)
  case atStart => exact ⟨0, by omega, rfl, rfl⟩
  case round =>
    obtain ⟨k, hk, rfl, rfl⟩ := hrel
    by_cases hlt : k < bs.length
    · obtain ⟨ad, u, rfl, hS, hu, hcell⟩ := hs.at_ hlt
      simp [hlt] at hu
      subst hu
      have H := Lib.hid (crc_take (~~~c) bs k hlt)
      clear hs
      go_wp2
      go_loop [0, 20] (fun r i => ∃ j : Nat, j ≤ 8 ∧ i = .int .i64 j ∧ r = .int .u32 (n32 (itS j (crc (~~~c) (bs.take k) ^^^ bs[k].toUInt32)))) (fun _ i => 8 - (intOf i).toNat)
      case atStart => exact ⟨0, by omega, rfl, rfl⟩
      case round =>
        obtain ⟨j, hj, rfl, rfl⟩ := hrel
        by_cases hlt : j < 8
        · go_wp2
          go_round
          case rel => exact ⟨j + 1, by omega, by go_num, rfl⟩
          case measure => simp [intOf]; omega
        · obtain rfl : j = 8 := by omega
          go_wp2
          go_round
          case rel => exact ⟨k + 1, by omega, by go_num, by rw [H.out]; rfl⟩
          case measure => simp [intOf]; omega
    · obtain rfl : k = bs.length := by omega
      go_wp2
      go_ret
      exact ⟨rfl, rfl⟩

set_option maxHeartbeats 400000 in
theorem of_any (v : Value) (l : List (List UInt8)) (S : Nat → Prop) (w : World) (hv : ByL w S v l) :
    Calls Try.prog 66 #[v] w fun e w' => e = .returned (.int .u32 (n32 (ofF l))) ∧ w = w' := by
  obtain ⟨A, cap, vs, rfl, hc1, hm, hs, hel⟩ := hv
  unfold maxLen at hm
  go_enter Try.func66, Try.ntmps66
  go_wp2
  go_loop [3, 8] (fun r i => ∃ k : Nat, k ≤ l.length ∧ i = .int .i64 k ∧ r = .int .u32 (n32 (ofF (l.take k)))) (fun _ i => l.length - (intOf i).toNat)
  case atStart => exact ⟨0, by omega, rfl, rfl⟩
  case round =>
    obtain ⟨k, hk, rfl, rfl⟩ := hrel
    by_cases hlt : k < l.length
    · obtain ⟨ad, u, rfl, hS, hu, hcell⟩ := hs.at_ hlt
      have hb := hel k u l[k] hu (by simp [hlt])
      have H := Lib.hid (ofF_take l k hlt)
      clear hs hel hu
      go_wp2_with (go_at_call 78; refine (more_any _ _ _ _ _ hb).mono ?_; rintro e w' ⟨rfl, rfl⟩)
      go_round
      case rel => exact ⟨k + 1, by omega, by go_num, by rw [H.out]⟩
      case measure => simp [intOf]; omega
    · obtain rfl : k = l.length := by omega
      go_wp2
      go_ret
      exact ⟨rfl, rfl⟩

set_option maxHeartbeats 400000 in
theorem refxor_any (a b : UInt32) (w : World) :
    Calls Try.prog 79 #[.int .u32 (n32 a), .int .u32 (n32 b)] w fun e w' => e = .returned (.int .u32 (n32 (a ^^^ b))) ∧ w = w' := by
  go_enter Try.func79, Try.ntmps79
  go_wp2
  go_loop [0, 1, 5, 6, 7] (fun x y v n i => ∃ (k : Nat) (u1 u2 r un : UInt32), k ≤ 32 ∧ XorAt a b k u1 u2 r un ∧ x = .int .u32 (n32 u1) ∧ y = .int .u32 (n32 u2) ∧ v = .int .u32 (n32 r) ∧ n = .int .u32 (n32 un) ∧ i = .int .i64 k) (fun _ _ _ _ i => 32 - (intOf i).toNat)
  case atStart => exact ⟨0, a, b, 0, 1, by omega, XorAt.start a b, rfl, rfl, rfl, rfl, rfl⟩
  case round =>
    obtain ⟨k, u1, u2, r, un, hk, hx, rfl, rfl, rfl, rfl, rfl⟩ := hrel
    by_cases hlt : k < 32
    · have hst := Lib.hid (hx.step hlt)
      clear hx
      go_wp2
      · have ht : ((u1 + u2) % 2 == 1) = true := by assumption
        have h2 := hst.out
        rw [if_pos (by simpa using ht)] at h2
        go_round
        case rel => exact ⟨k + 1, _, _, _, _, by omega, h2, int32_eq (u32_tdiv2 _), int32_eq (u32_tdiv2 _), int32_eq (u32_add _ _), int32_eq (u32_dbl _), by go_num⟩
        case measure => simp [intOf]; omega
      · have ht : ((u1 + u2) % 2 == 1) = false := by assumption
        have h2 := hst.out
        rw [if_neg (by simpa using ht)] at h2
        go_round
        case rel => exact ⟨k + 1, _, _, _, _, by omega, h2, int32_eq (u32_tdiv2 _), int32_eq (u32_tdiv2 _), rfl, int32_eq (u32_dbl _), by go_num⟩
        case measure => simp [intOf]; omega
    · obtain rfl : k = 32 := by omega
      go_wp2
      go_ret
      exact ⟨ret_int (by rw [hx.done]), rfl⟩

theorem ref_step_yes {c x y : UInt32} (h : ((c + x) % 2 == 1) = true) (e : c ^^^ x = y) : ((c / 2) ^^^ 2197175160) ^^^ (x / 2) = stp y := by
  rw [← e, ← ref_step, if_pos (by simpa using h)]
theorem ref_step_no {c x y : UInt32} (h : ((c + x) % 2 == 1) = false) (e : c ^^^ x = y) : (c / 2) ^^^ (x / 2) = stp y := by
  rw [← e, ← ref_step, if_neg (by simpa using h)]
theorem half_pow {x : UInt32} {y j : Nat} (h : x.toNat = y / 2 ^ j) : Hid ((x / 2).toNat = y / 2 ^ (j + 1)) := by
  show _ = _
  rw [UInt32.toNat_div, h, Nat.pow_succ, Nat.div_div_eq_div_mul]; rfl
theorem byt_done {c cr xr : UInt32} {x : UInt8} (hx : x.toNat < 256) (h1 : cr ^^^ xr = itS 8 (c ^^^ x.toUInt32)) (h2 : xr.toNat = x.toNat / 2 ^ 8) : cr = byt c x := by
  have e : xr = 0 := by apply UInt32.toNat_inj.1; rw [h2]; show x.toNat / 256 = 0; omega
  unfold byt
  rw [← h1, e, xor_zero32]
theorem poly_eq : n32 2197175160 = (2197175160 : Int) := rfl

set_option maxHeartbeats 400000 in
theorem refbytes_any (c : UInt32) (v : Value) (bs : List UInt8) (S : Nat → Prop) (w : World) (hv : By w S v bs) :
    Calls Try.prog 76 #[.int .u32 (n32 c), v] w fun e w' => e = .returned (.int .u32 (n32 (crc c bs))) ∧ w = w' := by
  obtain ⟨A, cap, rfl, hc1, hm, hs⟩ := hv
  unfold maxLen at hm
  go_enter Try.func76, Try.ntmps76
  go_wp2
  go_loop [0, 5] (fun r i => ∃ k : Nat, k ≤ bs.length ∧ i = .int .i64 k ∧ r = .int .u32 (n32 (crc c (bs.take k)))) (fun _ i => bs.length - (intOf i).toNat)
  case atStart => exact ⟨0, by omega, rfl, rfl⟩
  case round =>
    obtain ⟨k, hk, rfl, rfl⟩ := hrel
    by_cases hlt : k < bs.length
    · obtain ⟨ad, u, rfl, hS, hu, hcell⟩ := hs.at_ hlt
      simp [hlt] at hu
      subst hu
      have H := Lib.hid (crc_take c bs k hlt)
      have hx8 := bs[k].toNat_lt
      have ex : bs[k].toUInt32.toNat = bs[k].toNat := by simp
      have Hx := Lib.hid ex
      clear ex
      clear hs
      go_wp2
      go_loop [0, 6, 7] (fun r x i => ∃ (j : Nat) (cr xr : UInt32), j ≤ 8 ∧ i = .int .i64 j ∧ r = .int .u32 (n32 cr) ∧ x = .int .u32 (n32 xr) ∧ Hid (cr ^^^ xr = itS j (crc c (bs.take k) ^^^ bs[k].toUInt32)) ∧ Hid (xr.toNat = bs[k].toNat / 2 ^ j)) (fun _ _ i => 8 - (intOf i).toNat)
      case atStart => exact ⟨0, _, _, by omega, rfl, rfl, rfl, rfl, by simp [Hid]⟩
      case round =>
        obtain ⟨j, cr, xr, hj, rfl, rfl, rfl, h1, h2⟩ := hrel
        by_cases hlt : j < 8
        · go_wp2_with (go_at_call 79; rw [← poly_eq]; refine (refxor_any _ _ _).mono ?_; rintro e w' ⟨rfl, rfl⟩)
          · have ht : ((cr + xr) % 2 == 1) = true := by assumption
            go_round
            case rel => exact ⟨j + 1, _, _, by omega, by go_num, rfl, rfl, ref_step_yes ht h1.out, half_pow h2.out⟩
            case measure => simp [intOf]; omega
          · have ht : ((cr + xr) % 2 == 1) = false := by assumption
            go_round
            case rel => exact ⟨j + 1, _, _, by omega, by go_num, int32_eq (u32_tdiv2 _), int32_eq (u32_tdiv2 _), ref_step_no ht h1.out, half_pow h2.out⟩
            case measure => simp [intOf]; omega
        · obtain rfl : j = 8 := by omega
          go_wp2
          go_round
          case rel => exact ⟨k + 1, by omega, by go_num, by rw [H.out]; exact int32_eq (congrArg n32 (byt_done hx8 h1.out h2.out))⟩
          case measure => simp [intOf]; omega
    · obtain rfl : k = bs.length := by omega
      go_wp2
      go_ret
      exact ⟨rfl, rfl⟩

@[go_sem] theorem ones_sub (c : UInt32) : (4294967295 - n32 c) % (4294967296 : Int) = n32 (~~~c) := by
  have := c.toNat_lt
  have e : (~~~c).toNat = 4294967295 - c.toNat := by simp
  unfold n32
  rw [e]
  omega
@[go_sem] theorem ones_sub' (c : UInt32) : 4294967295 - n32 c = n32 (~~~c) := by
  have := c.toNat_lt
  have e : (~~~c).toNat = 4294967295 - c.toNat := by simp
  unfold n32
  rw [e]
  omega

theorem crcl_take (c : UInt32) (l : List (List UInt8)) (k : Nat) (h : k < l.length) : crc c (l.take (k + 1)).flatten = crc (crc c (l.take k).flatten) l[k] := by
  rw [List.take_succ_eq_append_getElem h, List.flatten_append, crc_append, List.flatten_singleton]
theorem ofF_not (l : List (List UInt8)) : ~~~ (crc 4294967295 l.flatten) = ofF l := by
  rw [ofF_flat]; rfl

set_option maxHeartbeats 400000 in
theorem refof_any (v : Value) (l : List (List UInt8)) (S : Nat → Prop) (w : World) (hv : ByL w S v l) :
    Calls Try.prog 62 #[v] w fun e w' => e = .returned (.int .u32 (n32 (ofF l))) ∧ w = w' := by
  obtain ⟨A, cap, vs, rfl, hc1, hm, hs, hel⟩ := hv
  unfold maxLen at hm
  go_enter Try.func62, Try.ntmps62
  go_wp2
  go_loop [3, 4] (fun r i => ∃ k : Nat, k ≤ l.length ∧ i = .int .i64 k ∧ r = .int .u32 (n32 (crc 4294967295 (l.take k).flatten))) (fun _ i => l.length - (intOf i).toNat)
  case atStart => exact ⟨0, by omega, rfl, rfl⟩
  case round =>
    obtain ⟨k, hk, rfl, rfl⟩ := hrel
    by_cases hlt : k < l.length
    · obtain ⟨ad, u, rfl, hS, hu, hcell⟩ := hs.at_ hlt
      have hb := hel k u l[k] hu (by simp [hlt])
      have H := Lib.hid (crcl_take 4294967295 l k hlt)
      clear hs hel hu
      go_wp2_with (go_at_call 76; refine (refbytes_any _ _ _ _ _ hb).mono ?_; rintro e w' ⟨rfl, rfl⟩)
      go_round
      case rel => exact ⟨k + 1, by omega, by go_num, by rw [H.out]⟩
      case measure => simp [intOf]; omega
    · obtain rfl : k = l.length := by omega
      go_wp2
      go_ret
      exact ⟨ret_int (congrArg n32 (ofF_not l)), rfl⟩

end Go.Proofs.Ytpjinngngbifoaa
