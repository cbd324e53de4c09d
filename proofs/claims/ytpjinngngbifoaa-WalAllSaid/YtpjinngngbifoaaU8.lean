/-
  Words, plain models, laws and walks that the claims of this layer share (joined by shake.py). No condition.
-/
import Derived.Test.YtpjinngngbifoaaRows
import Derived.Test.YtpjinngngbifoaaU1
set_option linter.unusedSimpArgs false
set_option linter.unusedVariables false
namespace Go.Proofs.Ytpjinngngbifoaa
def stp (s : UInt32) : UInt32 := (s >>> 1) ^^^ (-(s &&& 1) &&& 2197175160)
def itS : Nat → UInt32 → UInt32
  | 0, s => s
  | n + 1, s => stp (itS n s)
def byt (c : UInt32) (x : UInt8) : UInt32 := itS 8 (c ^^^ x.toUInt32)
def crc (c : UInt32) (bs : List UInt8) : UInt32 := bs.foldl byt c
def moreF (c : UInt32) (bs : List UInt8) : UInt32 := ~~~ (crc (~~~ c) bs)
def ofF (l : List (List UInt8)) : UInt32 := l.foldl moreF 0
theorem crc_append (c : UInt32) (a b : List UInt8) : crc c (a ++ b) = crc (crc c a) b := by simp [crc, List.foldl_append]
theorem crc_take (c : UInt32) (bs : List UInt8) (k : Nat) (h : k < bs.length) : crc c (bs.take (k + 1)) = byt (crc c (bs.take k)) bs[k] := by
  rw [List.take_succ_eq_append_getElem h, crc_append]; rfl
theorem ofF_take (l : List (List UInt8)) (k : Nat) (h : k < l.length) : ofF (l.take (k + 1)) = moreF (ofF (l.take k)) l[k] := by
  rw [List.take_succ_eq_append_getElem h]; simp only [ofF, List.foldl_append, List.foldl_cons, List.foldl_nil]
theorem not_not32 (c : UInt32) : ~~~ (~~~ c) = c := by
  apply UInt32.toBitVec_inj.1; simp
theorem moreF_append (c : UInt32) (a b : List UInt8) : moreF c (a ++ b) = moreF (moreF c a) b := by
  simp [moreF, crc_append, not_not32]
theorem ofF_flat (l : List (List UInt8)) : ofF l = moreF 0 l.flatten := by
  have key : ∀ (l : List (List UInt8)) (c : UInt32), l.foldl moreF c = moreF c l.flatten := by
    intro l
    induction l with
    | nil => intro c; simp [moreF, crc, not_not32]
    | cons x l ih => intro c; simp [ih, moreF_append]
  exact key l 0
theorem low_bit (s : UInt32) : s &&& 1 = 0 ∨ s &&& 1 = 1 := by
  have : (s &&& 1).toNat = s.toNat % 2 := by simp
  rcases Nat.mod_two_eq_zero_or_one s.toNat with h | h
  · left; apply UInt32.toNat_inj.1; rw [this, h]; rfl
  · right; apply UInt32.toNat_inj.1; rw [this, h]; rfl
theorem nat_xor2 (a b : Nat) : (a ^^^ b) % 2 = (a + b) % 2 := by
  have h : (a ^^^ b) % 2 = (a % 2) ^^^ (b % 2) := Nat.xor_mod_two_pow (n := 1)
  rw [h, Nat.add_mod]
  rcases Nat.mod_two_eq_zero_or_one a with h1 | h1 <;> rcases Nat.mod_two_eq_zero_or_one b with h2 | h2 <;> rw [h1, h2] <;> rfl
theorem shr_xor (a b : UInt32) : (a ^^^ b) >>> 1 = (a >>> 1) ^^^ (b >>> 1) := by
  apply UInt32.toBitVec_inj.1
  simp [BitVec.ushiftRight_xor_distrib]
theorem xor_zero32 (a : UInt32) : a ^^^ 0 = a := by apply UInt32.toBitVec_inj.1; simp
theorem par_add (a b : UInt32) : (a + b) % 2 = (a ^^^ b) &&& 1 := by
  apply UInt32.toNat_inj.1
  have h1 : ((a + b) % 2).toNat = (a.toNat + b.toNat) % 2 := by
    rw [UInt32.toNat_mod, UInt32.toNat_add]
    show (a.toNat + b.toNat) % 4294967296 % 2 = _
    omega
  have h2 : ((a ^^^ b) &&& 1).toNat = (a.toNat ^^^ b.toNat) % 2 := by simp
  rw [h1, h2, nat_xor2]
theorem div2_shr (a : UInt32) : a / (2 : UInt32) = a >>> 1 := by
  apply UInt32.toNat_inj.1
  have h1 : (a / 2).toNat = a.toNat / 2 := UInt32.toNat_div a 2
  have h2 : (a >>> 1).toNat = a.toNat / 2 := by simp [Nat.shiftRight_eq_div_pow]
  rw [h1, h2]
/-- One bit of the document's: the registers' xor takes a step. -/
theorem ref_step (c x : UInt32) : (if (c + x) % 2 = 1 then (c / 2) ^^^ 2197175160 else c / 2) ^^^ (x / 2) = stp (c ^^^ x) := by
  rw [par_add, div2_shr, div2_shr]
  unfold stp
  rw [shr_xor]
  rcases low_bit (c ^^^ x) with h | h
  · rw [h, if_neg (by decide)]
    have e : (-(0 : UInt32) &&& 2197175160) = 0 := by decide
    rw [e, xor_zero32]
  · rw [h, if_pos rfl]
    have e : (-(1 : UInt32) &&& 2197175160) = 2197175160 := by decide
    rw [e]
    apply UInt32.toBitVec_inj.1; simp only [UInt32.toBitVec_xor]; ac_rfl
/-- What the document's xor has after i bits. -/
def XorAt (a b : UInt32) (i : Nat) (u v r unit : UInt32) : Prop :=
  u.toNat = a.toNat / 2 ^ i ∧ v.toNat = b.toNat / 2 ^ i ∧ r.toNat = (a ^^^ b).toNat % 2 ^ i ∧ unit.toNat = 2 ^ i % 2 ^ 32
theorem XorAt.start (a b : UInt32) : XorAt a b 0 a b 0 1 := by simp [XorAt, Nat.mod_one]
theorem xor_bit (a b : UInt32) (i : Nat) : (a.toNat / 2 ^ i + b.toNat / 2 ^ i) % 2 = (a ^^^ b).toNat / 2 ^ i % 2 := by
  have : (a ^^^ b).toNat / 2 ^ i = (a.toNat / 2 ^ i) ^^^ (b.toNat / 2 ^ i) := by
    rw [UInt32.toNat_xor, ← Nat.shiftRight_eq_div_pow, ← Nat.shiftRight_eq_div_pow, ← Nat.shiftRight_eq_div_pow, Nat.shiftRight_xor_distrib]
  rw [this, nat_xor2]
theorem XorAt.step {a b : UInt32} {i : Nat} {u v r unit : UInt32} (hi : i < 32) (h : XorAt a b i u v r unit) :
    XorAt a b (i + 1) (u / 2) (v / 2) (if (u + v) % 2 = 1 then r + unit else r) (unit * 2) := by
  obtain ⟨h1, h2, h3, h4⟩ := h
  have hp : 2 ^ i < 2 ^ 32 := Nat.pow_lt_pow_right (by omega) hi
  rw [Nat.mod_eq_of_lt hp] at h4
  have hbit : ((u + v) % 2).toNat = (a ^^^ b).toNat / 2 ^ i % 2 := by
    rw [← xor_bit, ← h1, ← h2, UInt32.toNat_mod, UInt32.toNat_add]
    show (u.toNat + v.toNat) % 4294967296 % 2 = _
    omega
  have hx := (a ^^^ b).toNat_lt
  have hs := Nat.mod_pow_succ (x := (a ^^^ b).toNat) (b := 2) (k := i)
  refine ⟨?_, ?_, ?_, ?_⟩
  · rw [UInt32.toNat_div, h1, Nat.pow_succ, Nat.div_div_eq_div_mul]; rfl
  · rw [UInt32.toNat_div, h2, Nat.pow_succ, Nat.div_div_eq_div_mul]; rfl
  · rw [hs]
    have hle : (a ^^^ b).toNat % 2 ^ (i + 1) ≤ (a ^^^ b).toNat := Nat.mod_le _ _
    split
    · rename_i h
      have : ((u + v) % 2).toNat = 1 := by rw [h]; rfl
      rw [hbit] at this
      rw [UInt32.toNat_add, h3, h4, this]
      rw [hs, this] at hle
      rw [Nat.mod_eq_of_lt (by omega)]
      omega
    · rename_i h
      have h0 : ((u + v) % 2).toNat ≠ 1 := fun e => h (UInt32.toNat_inj.1 e)
      rw [hbit] at h0
      have : (a ^^^ b).toNat / 2 ^ i % 2 = 0 := by omega
      rw [h3, this]
      omega
  · rw [UInt32.toNat_mul, h4, Nat.pow_succ]; rfl
theorem XorAt.done {a b u v r unit : UInt32} (h : XorAt a b 32 u v r unit) : r = a ^^^ b := by
  obtain ⟨_, _, h3, _⟩ := h
  apply UInt32.toNat_inj.1
  rw [h3, Nat.mod_eq_of_lt (a ^^^ b).toNat_lt]
end Go.Proofs.Ytpjinngngbifoaa
namespace Go.Proofs.Ytpjinngngbifoaa
open Go.RowKit
theorem u32_bits (op : BinOp) (f : BitVec 32 → BitVec 32 → BitVec 32) (hop : ∀ x y : Int, bits op .u32 x y = IntKind.u32.wrap (f (BitVec.ofInt 32 x) (BitVec.ofInt 32 y)).toNat) (a b : UInt32) :
    bits op .u32 (n32 a) (n32 b) = n32 (UInt32.ofBitVec (f a.toBitVec b.toBitVec)) := by
  rw [hop]; unfold n32; rw [u32_bv, u32_bv, u32_back]
@[go_sem] theorem u32_xor (a b : UInt32) : bits .xor .u32 (n32 a) (n32 b) = n32 (a ^^^ b) := u32_bits _ _ (fun _ _ => rfl) a b
@[go_sem] theorem u32_and (a b : UInt32) : bits .and .u32 (n32 a) (n32 b) = n32 (a &&& b) := u32_bits _ _ (fun _ _ => rfl) a b
@[go_sem] theorem u32_not (c : UInt32) : bits .xor .u32 IntKind.u32.max (n32 c) = n32 (~~~c) := by
  have h : IntKind.u32.max = n32 4294967295 := by decide
  rw [h, u32_xor]
  congr 1
@[go_sem] theorem u32_of8 (b : UInt8) : n8 b % (4294967296 : Int) = n32 b.toUInt32 := by
  have := n8_bd b
  rw [Int.emod_eq_of_lt (by omega) (by omega)]
  simp [n8, n32]
@[go_sem] theorem u32_and1 (a : UInt32) : bits .and .u32 (n32 a) 1 = n32 (a &&& 1) := u32_and a 1
@[go_sem] theorem u32_andp (a : UInt32) : bits .and .u32 (n32 a) 2197175160 = n32 (a &&& 2197175160) := u32_and a 2197175160
@[go_sem] theorem u32_neg (a : UInt32) : -(n32 a) % (4294967296 : Int) = n32 (-a) := by
  have := a.toNat_lt
  have e : (-a).toNat = (4294967296 - a.toNat) % 4294967296 := by simp
  unfold n32
  rw [e]
  omega
@[go_sem] theorem u32_half (a : UInt32) : n32 a / (2 : Int) = n32 (a >>> 1) := by
  have e : (a >>> 1).toNat = a.toNat / 2 := by simp [Nat.shiftRight_eq_div_pow]
  unfold n32
  rw [e]
  omega
@[go_sem] theorem u32_add (a b : UInt32) : (n32 a + n32 b) % (4294967296 : Int) = n32 (a + b) := by
  unfold n32; rw [UInt32.toNat_add]; omega
@[go_sem] theorem u32_mod2 (a : UInt32) : n32 a % (2 : Int) = n32 (a % 2) := by
  unfold n32; rw [UInt32.toNat_mod]; rfl
@[go_sem] theorem u32_dbl (a : UInt32) : (n32 a * 2) % (4294967296 : Int) = n32 (a * 2) := by
  unfold n32; rw [UInt32.toNat_mul]; show _ = ((a.toNat * 2 % 4294967296 : Nat) : Int); omega
@[go_sem] theorem u32_tdiv2 (a : UInt32) : (n32 a).tdiv (2 : Int) % (4294967296 : Int) = n32 (a / 2) := by
  have := a.toNat_lt
  unfold n32; rw [UInt32.toNat_div]
  have e : ((a.toNat : Int).tdiv 2) = ((a.toNat / 2 : Nat) : Int) := by rw [Int.tdiv_eq_ediv_of_nonneg (by omega)]; omega
  rw [e]
  show _ = ((a.toNat / 2 : Nat) : Int)
  omega
@[go_sem] theorem u32_tmod2 (a : UInt32) : (n32 a).tmod (2 : Int) = n32 (a % 2) := by
  unfold n32; rw [UInt32.toNat_mod, Int.tmod_eq_emod_of_nonneg (by omega)]; rfl
@[go_sem] theorem u32_is1 (a : UInt32) : (n32 a == (1 : Int)) = (a == 1) := by
  rw [Bool.eq_iff_iff, beq_iff_eq, beq_iff_eq]
  exact n32_inj (b := 1)
@[go_sem] theorem u32_mod32 (a : UInt32) : n32 a % (4294967296 : Int) = n32 a := by
  have := n32_bd a
  exact Int.emod_eq_of_lt (by omega) (by omega)
theorem int32_eq {a b : Int} (h : a = b) : Value.int .u32 a = Value.int .u32 b := by rw [h]
theorem ret_int {k : IntKind} {a b : Int} (h : a = b) : Ending.returned (.int k a) = .returned (.int k b) := by rw [h]
set_option maxHeartbeats 400000 in
theorem more_any (c : UInt32) (v : Value) (bs : List UInt8) (S : Nat → Prop) (w : World) (hv : By w S v bs) :
    Calls Try.prog 78 #[.int .u32 (n32 c), v] w fun e w' => e = .returned (.int .u32 (n32 (moreF c bs))) ∧ w = w' := by
  obtain ⟨A, cap, rfl, hc1, hm, hs⟩ := hv
  unfold maxLen at hm
  go_enter Try.func78, Try.ntmps78
  go_wp2
  go_loop [0, 12] (fun r i => ∃ k : Nat, k ≤ bs.length ∧ i = .int .i64 k ∧ r = .int .u32 (n32 (crc (~~~c) (bs.take k)))) (fun _ i => bs.length - (intOf i).toNat)
  case atStart => exact ⟨0, by omega, rfl, rfl⟩
  case round =>
    obtain ⟨k, hk, rfl, rfl⟩ := hrel
    by_cases hlt : k < bs.length
    · obtain ⟨ad, u, rfl, hS, hu, hcell⟩ := hs.at_ hlt
      simp [hlt] at hu
      subst hu
      have H := Lib.hid (crc_take (~~~c) bs k hlt)
      clear hs
      go_wp2
      go_loop [0, 20] (fun r i => ∃ j : Nat, j ≤ 8 ∧ i = .int .i64 j ∧ r = .int .u32 (n32 (itS j (crc (~~~c) (bs.take k) ^^^ bs[k].toUInt32)))) (fun _ i => 8 - (intOf i).toNat)
      case atStart => exact ⟨0, by omega, rfl, rfl⟩
      case round =>
        obtain ⟨j, hj, rfl, rfl⟩ := hrel
        by_cases hlt : j < 8
        · go_wp2
          go_round
          case rel => exact ⟨j + 1, by omega, by go_num, rfl⟩
          case measure => simp [intOf]; omega
        · obtain rfl : j = 8 := by omega
          go_wp2
          go_round
          case rel => exact ⟨k + 1, by omega, by go_num, by rw [H.out]; rfl⟩
          case measure => simp [intOf]; omega
    · obtain rfl : k = bs.length := by omega
      go_wp2
      go_ret
      exact ⟨rfl, rfl⟩
set_option maxHeartbeats 400000 in
theorem of_any (v : Value) (l : List (List UInt8)) (S : Nat → Prop) (w : World) (hv : ByL w S v l) :
    Calls Try.prog 66 #[v] w fun e w' => e = .returned (.int .u32 (n32 (ofF l))) ∧ w = w' := by
  obtain ⟨A, cap, vs, rfl, hc1, hm, hs, hel⟩ := hv
  unfold maxLen at hm
  go_enter Try.func66, Try.ntmps66
  go_wp2
  go_loop [3, 8] (fun r i => ∃ k : Nat, k ≤ l.length ∧ i = .int .i64 k ∧ r = .int .u32 (n32 (ofF (l.take k)))) (fun _ i => l.length - (intOf i).toNat)
  case atStart => exact ⟨0, by omega, rfl, rfl⟩
  case round =>
    obtain ⟨k, hk, rfl, rfl⟩ := hrel
    by_cases hlt : k < l.length
    · obtain ⟨ad, u, rfl, hS, hu, hcell⟩ := hs.at_ hlt
      have hb := hel k u l[k] hu (by simp [hlt])
      have H := Lib.hid (ofF_take l k hlt)
      clear hs hel hu
      go_wp2_with (go_at_call 78; refine (more_any _ _ _ _ _ hb).mono ?_; rintro e w' ⟨rfl, rfl⟩)
      go_round
      case rel => exact ⟨k + 1, by omega, by go_num, by rw [H.out]⟩
      case measure => simp [intOf]; omega
    · obtain rfl : k = l.length := by omega
      go_wp2
      go_ret
      exact ⟨rfl, rfl⟩
set_option maxHeartbeats 400000 in
theorem refxor_any (a b : UInt32) (w : World) :
    Calls Try.prog 79 #[.int .u32 (n32 a), .int .u32 (n32 b)] w fun e w' => e = .returned (.int .u32 (n32 (a ^^^ b))) ∧ w = w' := by
  go_enter Try.func79, Try.ntmps79
  go_wp2
  go_loop [0, 1, 5, 6, 7] (fun x y v n i => ∃ (k : Nat) (u1 u2 r un : UInt32), k ≤ 32 ∧ XorAt a b k u1 u2 r un ∧ x = .int .u32 (n32 u1) ∧ y = .int .u32 (n32 u2) ∧ v = .int .u32 (n32 r) ∧ n = .int .u32 (n32 un) ∧ i = .int .i64 k) (fun _ _ _ _ i => 32 - (intOf i).toNat)
  case atStart => exact ⟨0, a, b, 0, 1, by omega, XorAt.start a b, rfl, rfl, rfl, rfl, rfl⟩
  case round =>
    obtain ⟨k, u1, u2, r, un, hk, hx, rfl, rfl, rfl, rfl, rfl⟩ := hrel
    by_cases hlt : k < 32
    · have hst := Lib.hid (hx.step hlt)
      clear hx
      go_wp2
      · have ht : ((u1 + u2) % 2 == 1) = true := by assumption
        have h2 := hst.out
        rw [if_pos (by simpa using ht)] at h2
        go_round
        case rel => exact ⟨k + 1, _, _, _, _, by omega, h2, int32_eq (u32_tdiv2 _), int32_eq (u32_tdiv2 _), int32_eq (u32_add _ _), int32_eq (u32_dbl _), by go_num⟩
        case measure => simp [intOf]; omega
      · have ht : ((u1 + u2) % 2 == 1) = false := by assumption
        have h2 := hst.out
        rw [if_neg (by simpa using ht)] at h2
        go_round
        case rel => exact ⟨k + 1, _, _, _, _, by omega, h2, int32_eq (u32_tdiv2 _), int32_eq (u32_tdiv2 _), rfl, int32_eq (u32_dbl _), by go_num⟩
        case measure => simp [intOf]; omega
    · obtain rfl : k = 32 := by omega
      go_wp2
      go_ret
      exact ⟨ret_int (by rw [hx.done]), rfl⟩
theorem ref_step_yes {c x y : UInt32} (h : ((c + x) % 2 == 1) = true) (e : c ^^^ x = y) : ((c / 2) ^^^ 2197175160) ^^^ (x / 2) = stp y := by
  rw [← e, ← ref_step, if_pos (by simpa using h)]
theorem ref_step_no {c x y : UInt32} (h : ((c + x) % 2 == 1) = false) (e : c ^^^ x = y) : (c / 2) ^^^ (x / 2) = stp y := by
  rw [← e, ← ref_step, if_neg (by simpa using h)]
theorem half_pow {x : UInt32} {y j : Nat} (h : x.toNat = y / 2 ^ j) : Hid ((x / 2).toNat = y / 2 ^ (j + 1)) := by
  show _ = _
  rw [UInt32.toNat_div, h, Nat.pow_succ, Nat.div_div_eq_div_mul]; rfl
theorem byt_done {c cr xr : UInt32} {x : UInt8} (hx : x.toNat < 256) (h1 : cr ^^^ xr = itS 8 (c ^^^ x.toUInt32)) (h2 : xr.toNat = x.toNat / 2 ^ 8) : cr = byt c x := by
  have e : xr = 0 := by apply UInt32.toNat_inj.1; rw [h2]; show x.toNat / 256 = 0; omega
  unfold byt
  rw [← h1, e, xor_zero32]
theorem poly_eq : n32 2197175160 = (2197175160 : Int) := rfl
set_option maxHeartbeats 400000 in
theorem refbytes_any (c : UInt32) (v : Value) (bs : List UInt8) (S : Nat → Prop) (w : World) (hv : By w S v bs) :
    Calls Try.prog 76 #[.int .u32 (n32 c), v] w fun e w' => e = .returned (.int .u32 (n32 (crc c bs))) ∧ w = w' := by
  obtain ⟨A, cap, rfl, hc1, hm, hs⟩ := hv
  unfold maxLen at hm
  go_enter Try.func76, Try.ntmps76
  go_wp2
  go_loop [0, 5] (fun r i => ∃ k : Nat, k ≤ bs.length ∧ i = .int .i64 k ∧ r = .int .u32 (n32 (crc c (bs.take k)))) (fun _ i => bs.length - (intOf i).toNat)
  case atStart => exact ⟨0, by omega, rfl, rfl⟩
  case round =>
    obtain ⟨k, hk, rfl, rfl⟩ := hrel
    by_cases hlt : k < bs.length
    · obtain ⟨ad, u, rfl, hS, hu, hcell⟩ := hs.at_ hlt
      simp [hlt] at hu
      subst hu
      have H := Lib.hid (crc_take c bs k hlt)
      have hx8 := bs[k].toNat_lt
      have ex : bs[k].toUInt32.toNat = bs[k].toNat := by simp
      have Hx := Lib.hid ex
      clear ex
      clear hs
      go_wp2
      go_loop [0, 6, 7] (fun r x i => ∃ (j : Nat) (cr xr : UInt32), j ≤ 8 ∧ i = .int .i64 j ∧ r = .int .u32 (n32 cr) ∧ x = .int .u32 (n32 xr) ∧ Hid (cr ^^^ xr = itS j (crc c (bs.take k) ^^^ bs[k].toUInt32)) ∧ Hid (xr.toNat = bs[k].toNat / 2 ^ j)) (fun _ _ i => 8 - (intOf i).toNat)
      case atStart => exact ⟨0, _, _, by omega, rfl, rfl, rfl, rfl, by simp [Hid]⟩
      case round =>
        obtain ⟨j, cr, xr, hj, rfl, rfl, rfl, h1, h2⟩ := hrel
        by_cases hlt : j < 8
        · go_wp2_with (go_at_call 79; rw [← poly_eq]; refine (refxor_any _ _ _).mono ?_; rintro e w' ⟨rfl, rfl⟩)
          · have ht : ((cr + xr) % 2 == 1) = true := by assumption
            go_round
            case rel => exact ⟨j + 1, _, _, by omega, by go_num, rfl, rfl, ref_step_yes ht h1.out, half_pow h2.out⟩
            case measure => simp [intOf]; omega
          · have ht : ((cr + xr) % 2 == 1) = false := by assumption
            go_round
            case rel => exact ⟨j + 1, _, _, by omega, by go_num, int32_eq (u32_tdiv2 _), int32_eq (u32_tdiv2 _), ref_step_no ht h1.out, half_pow h2.out⟩
            case measure => simp [intOf]; omega
        · obtain rfl : j = 8 := by omega
          go_wp2
          go_round
          case rel => exact ⟨k + 1, by omega, by go_num, by rw [H.out]; exact int32_eq (congrArg n32 (byt_done hx8 h1.out h2.out))⟩
          case measure => simp [intOf]; omega
    · obtain rfl : k = bs.length := by omega
      go_wp2
      go_ret
      exact ⟨rfl, rfl⟩
@[go_sem] theorem ones_sub (c : UInt32) : (4294967295 - n32 c) % (4294967296 : Int) = n32 (~~~c) := by
  have := c.toNat_lt
  have e : (~~~c).toNat = 4294967295 - c.toNat := by simp
  unfold n32
  rw [e]
  omega
@[go_sem] theorem ones_sub' (c : UInt32) : 4294967295 - n32 c = n32 (~~~c) := by
  have := c.toNat_lt
  have e : (~~~c).toNat = 4294967295 - c.toNat := by simp
  unfold n32
  rw [e]
  omega
theorem crcl_take (c : UInt32) (l : List (List UInt8)) (k : Nat) (h : k < l.length) : crc c (l.take (k + 1)).flatten = crc (crc c (l.take k).flatten) l[k] := by
  rw [List.take_succ_eq_append_getElem h, List.flatten_append, crc_append, List.flatten_singleton]
theorem ofF_not (l : List (List UInt8)) : ~~~ (crc 4294967295 l.flatten) = ofF l := by
  rw [ofF_flat]; rfl
set_option maxHeartbeats 400000 in
theorem refof_any (v : Value) (l : List (List UInt8)) (S : Nat → Prop) (w : World) (hv : ByL w S v l) :
    Calls Try.prog 62 #[v] w fun e w' => e = .returned (.int .u32 (n32 (ofF l))) ∧ w = w' := by
  obtain ⟨A, cap, vs, rfl, hc1, hm, hs, hel⟩ := hv
  unfold maxLen at hm
  go_enter Try.func62, Try.ntmps62
  go_wp2
  go_loop [3, 4] (fun r i => ∃ k : Nat, k ≤ l.length ∧ i = .int .i64 k ∧ r = .int .u32 (n32 (crc 4294967295 (l.take k).flatten))) (fun _ i => l.length - (intOf i).toNat)
  case atStart => exact ⟨0, by omega, rfl, rfl⟩
  case round =>
    obtain ⟨k, hk, rfl, rfl⟩ := hrel
    by_cases hlt : k < l.length
    · obtain ⟨ad, u, rfl, hS, hu, hcell⟩ := hs.at_ hlt
      have hb := hel k u l[k] hu (by simp [hlt])
      have H := Lib.hid (crcl_take 4294967295 l k hlt)
      clear hs hel hu
      go_wp2_with (go_at_call 76; refine (refbytes_any _ _ _ _ _ hb).mono ?_; rintro e w' ⟨rfl, rfl⟩)
      go_round
      case rel => exact ⟨k + 1, by omega, by go_num, by rw [H.out]⟩
      case measure => simp [intOf]; omega
    · obtain rfl : k = l.length := by omega
      go_wp2
      go_ret
      exact ⟨ret_int (congrArg n32 (ofF_not l)), rfl⟩
end Go.Proofs.Ytpjinngngbifoaa
