/-
  The plain mathematics of the sum of layer 2: the register, bit by bit; no program in sight.
-/
import Derived.Test.YtpjinngngbifoaaLib
set_option linter.unusedSimpArgs false
set_option linter.unusedVariables false
namespace Go.Proofs.Ytpjinngngbifoaa

def stp (s : UInt32) : UInt32 := (s >>> 1) ^^^ (-(s &&& 1) &&& 2197175160)
def itS : Nat → UInt32 → UInt32
  | 0, s => s
  | n + 1, s => stp (itS n s)
def byt (c : UInt32) (x : UInt8) : UInt32 := itS 8 (c ^^^ x.toUInt32)
def crc (c : UInt32) (bs : List UInt8) : UInt32 := bs.foldl byt c
def moreF (c : UInt32) (bs : List UInt8) : UInt32 := ~~~ (crc (~~~ c) bs)
def ofF (l : List (List UInt8)) : UInt32 := l.foldl moreF 0

theorem crc_append (c : UInt32) (a b : List UInt8) : crc c (a ++ b) = crc (crc c a) b := by simp [crc, List.foldl_append]
theorem crc_take (c : UInt32) (bs : List UInt8) (k : Nat) (h : k < bs.length) : crc c (bs.take (k + 1)) = byt (crc c (bs.take k)) bs[k] := by
  rw [List.take_succ_eq_append_getElem h, crc_append]; rfl
theorem ofF_take (l : List (List UInt8)) (k : Nat) (h : k < l.length) : ofF (l.take (k + 1)) = moreF (ofF (l.take k)) l[k] := by
  rw [List.take_succ_eq_append_getElem h]; simp only [ofF, List.foldl_append, List.foldl_cons, List.foldl_nil]

theorem not_not32 (c : UInt32) : ~~~ (~~~ c) = c := by
  apply UInt32.toBitVec_inj.1; simp
theorem moreF_append (c : UInt32) (a b : List UInt8) : moreF c (a ++ b) = moreF (moreF c a) b := by
  simp [moreF, crc_append, not_not32]
theorem ofF_flat (l : List (List UInt8)) : ofF l = moreF 0 l.flatten := by
  have key : ∀ (l : List (List UInt8)) (c : UInt32), l.foldl moreF c = moreF c l.flatten := by
    intro l
    induction l with
    | nil => intro c; simp [moreF, crc, not_not32]
    | cons x l ih => intro c; simp [ih, moreF_append]
  exact key l 0

theorem low_bit (s : UInt32) : s &&& 1 = 0 ∨ s &&& 1 = 1 := by
  have : (s &&& 1).toNat = s.toNat % 2 := by simp
  rcases Nat.mod_two_eq_zero_or_one s.toNat with h | h
  · left; apply UInt32.toNat_inj.1; rw [this, h]; rfl
  · right; apply UInt32.toNat_inj.1; rw [this, h]; rfl
theorem nat_xor2 (a b : Nat) : (a ^^^ b) % 2 = (a + b) % 2 := by
  have h : (a ^^^ b) % 2 = (a % 2) ^^^ (b % 2) := Nat.xor_mod_two_pow (n := 1)
  rw [h, Nat.add_mod]
  rcases Nat.mod_two_eq_zero_or_one a with h1 | h1 <;> rcases Nat.mod_two_eq_zero_or_one b with h2 | h2 <;> rw [h1, h2] <;> rfl
theorem and1_xor (a b : UInt32) : (a ^^^ b) &&& 1 = (a &&& 1) ^^^ (b &&& 1) := by
  have key : ∀ c : UInt32, (c &&& 1).toNat = c.toNat % 2 := fun c => by simp
  apply UInt32.toNat_inj.1
  rw [UInt32.toNat_xor, key, key, key, UInt32.toNat_xor]
  exact Nat.xor_mod_two_pow (n := 1)
theorem shr_xor (a b : UInt32) : (a ^^^ b) >>> 1 = (a >>> 1) ^^^ (b >>> 1) := by
  apply UInt32.toBitVec_inj.1
  simp [BitVec.ushiftRight_xor_distrib]
theorem xor_ac (a b c d : UInt32) : (a ^^^ b) ^^^ (c ^^^ d) = (a ^^^ c) ^^^ (b ^^^ d) := by
  apply UInt32.toBitVec_inj.1
  simp only [UInt32.toBitVec_xor]
  ac_rfl
theorem stp_xor (a b : UInt32) : stp (a ^^^ b) = stp a ^^^ stp b := by
  unfold stp
  rw [shr_xor, and1_xor, xor_ac]
  congr 1
  rcases low_bit a with ha | ha <;> rcases low_bit b with hb | hb <;> rw [ha, hb] <;> decide
theorem stp_zero : stp 0 = 0 := by decide
theorem itS_xor (n : Nat) (a b : UInt32) : itS n (a ^^^ b) = itS n a ^^^ itS n b := by
  induction n with
  | zero => rfl
  | succ n ih => simp only [itS, ih, stp_xor]
theorem itS_zero (n : Nat) : itS n 0 = 0 := by
  induction n with
  | zero => rfl
  | succ n ih => simp only [itS, ih, stp_zero]
theorem itS_add (m n : Nat) (a : UInt32) : itS (m + n) a = itS m (itS n a) := by
  induction m with
  | zero => simp [itS]
  | succ m ih => rw [Nat.succ_add]; simp only [itS, ih]
theorem xor_self32 (a : UInt32) : a ^^^ a = 0 := by apply UInt32.toBitVec_inj.1; simp
theorem xor_zero32 (a : UInt32) : a ^^^ 0 = a := by apply UInt32.toBitVec_inj.1; simp
theorem zero_xor32 (a : UInt32) : 0 ^^^ a = a := by apply UInt32.toBitVec_inj.1; simp
theorem xor_eq_zero32 {a b : UInt32} (h : a ^^^ b = 0) : a = b := by
  have : (a ^^^ b) ^^^ b = 0 ^^^ b := by rw [h]
  have e : (a ^^^ b) ^^^ b = a ^^^ (b ^^^ b) := by apply UInt32.toBitVec_inj.1; simp only [UInt32.toBitVec_xor]; ac_rfl
  rw [e, xor_self32, xor_zero32, zero_xor32] at this
  exact this
/-- A step loses nothing. -/
theorem stp_eq_zero {a : UInt32} (h : stp a = 0) : a = 0 := by
  unfold stp at h
  have hh := xor_eq_zero32 h
  have hs : (a >>> 1).toNat = a.toNat / 2 := by simp [Nat.shiftRight_eq_div_pow]
  have hlt := a.toNat_lt
  rcases low_bit a with hb | hb
  · rw [hb] at hh
    have e : (-(0 : UInt32) &&& 2197175160) = 0 := by decide
    rw [e] at hh
    have h1 : (a >>> 1).toNat = 0 := by rw [hh]; rfl
    have h2 : (a &&& 1).toNat = a.toNat % 2 := by simp
    rw [hb] at h2
    have h3 : (0 : UInt32).toNat = 0 := rfl
    apply UInt32.toNat_inj.1
    rw [h3]; omega
  · rw [hb] at hh
    have e : (-(1 : UInt32) &&& 2197175160) = 2197175160 := by decide
    rw [e] at hh
    have h1 : (a >>> 1).toNat = 2197175160 := by rw [hh]; rfl
    omega
theorem itS_eq_zero {n : Nat} {a : UInt32} (h : itS n a = 0) : a = 0 := by
  induction n with
  | zero => exact h
  | succ n ih => exact ih (stp_eq_zero h)
theorem itS_inj {n : Nat} {a b : UInt32} (h : itS n a = itS n b) : a = b := by
  apply xor_eq_zero32
  apply itS_eq_zero (n := n)
  rw [itS_xor, h, xor_self32]

/-! ### the document's way: bit by bit -/
theorem par_add (a b : UInt32) : (a + b) % 2 = (a ^^^ b) &&& 1 := by
  apply UInt32.toNat_inj.1
  have h1 : ((a + b) % 2).toNat = (a.toNat + b.toNat) % 2 := by
    rw [UInt32.toNat_mod, UInt32.toNat_add]
    show (a.toNat + b.toNat) % 4294967296 % 2 = _
    omega
  have h2 : ((a ^^^ b) &&& 1).toNat = (a.toNat ^^^ b.toNat) % 2 := by simp
  rw [h1, h2, nat_xor2]
theorem div2_shr (a : UInt32) : a / (2 : UInt32) = a >>> 1 := by
  apply UInt32.toNat_inj.1
  have h1 : (a / 2).toNat = a.toNat / 2 := UInt32.toNat_div a 2
  have h2 : (a >>> 1).toNat = a.toNat / 2 := by simp [Nat.shiftRight_eq_div_pow]
  rw [h1, h2]
/-- One bit of the document's: the registers' xor takes a step. -/
theorem ref_step (c x : UInt32) : (if (c + x) % 2 = 1 then (c / 2) ^^^ 2197175160 else c / 2) ^^^ (x / 2) = stp (c ^^^ x) := by
  rw [par_add, div2_shr, div2_shr]
  unfold stp
  rw [shr_xor]
  rcases low_bit (c ^^^ x) with h | h
  · rw [h, if_neg (by decide)]
    have e : (-(0 : UInt32) &&& 2197175160) = 0 := by decide
    rw [e, xor_zero32]
  · rw [h, if_pos rfl]
    have e : (-(1 : UInt32) &&& 2197175160) = 2197175160 := by decide
    rw [e]
    apply UInt32.toBitVec_inj.1; simp only [UInt32.toBitVec_xor]; ac_rfl

/-- What the document's xor has after i bits. -/
def XorAt (a b : UInt32) (i : Nat) (u v r unit : UInt32) : Prop :=
  u.toNat = a.toNat / 2 ^ i ∧ v.toNat = b.toNat / 2 ^ i ∧ r.toNat = (a ^^^ b).toNat % 2 ^ i ∧ unit.toNat = 2 ^ i % 2 ^ 32
theorem XorAt.start (a b : UInt32) : XorAt a b 0 a b 0 1 := by simp [XorAt, Nat.mod_one]
theorem xor_bit (a b : UInt32) (i : Nat) : (a.toNat / 2 ^ i + b.toNat / 2 ^ i) % 2 = (a ^^^ b).toNat / 2 ^ i % 2 := by
  have : (a ^^^ b).toNat / 2 ^ i = (a.toNat / 2 ^ i) ^^^ (b.toNat / 2 ^ i) := by
    rw [UInt32.toNat_xor, ← Nat.shiftRight_eq_div_pow, ← Nat.shiftRight_eq_div_pow, ← Nat.shiftRight_eq_div_pow, Nat.shiftRight_xor_distrib]
  rw [this, nat_xor2]
theorem XorAt.step {a b : UInt32} {i : Nat} {u v r unit : UInt32} (hi : i < 32) (h : XorAt a b i u v r unit) :
    XorAt a b (i + 1) (u / 2) (v / 2) (if (u + v) % 2 = 1 then r + unit else r) (unit * 2) := by
  obtain ⟨h1, h2, h3, h4⟩ := h
  have hp : 2 ^ i < 2 ^ 32 := Nat.pow_lt_pow_right (by omega) hi
  rw [Nat.mod_eq_of_lt hp] at h4
  have hbit : ((u + v) % 2).toNat = (a ^^^ b).toNat / 2 ^ i % 2 := by
    rw [← xor_bit, ← h1, ← h2, UInt32.toNat_mod, UInt32.toNat_add]
    show (u.toNat + v.toNat) % 4294967296 % 2 = _
    omega
  have hx := (a ^^^ b).toNat_lt
  have hs := Nat.mod_pow_succ (x := (a ^^^ b).toNat) (b := 2) (k := i)
  refine ⟨?_, ?_, ?_, ?_⟩
  · rw [UInt32.toNat_div, h1, Nat.pow_succ, Nat.div_div_eq_div_mul]; rfl
  · rw [UInt32.toNat_div, h2, Nat.pow_succ, Nat.div_div_eq_div_mul]; rfl
  · rw [hs]
    have hle : (a ^^^ b).toNat % 2 ^ (i + 1) ≤ (a ^^^ b).toNat := Nat.mod_le _ _
    split
    · rename_i h
      have : ((u + v) % 2).toNat = 1 := by rw [h]; rfl
      rw [hbit] at this
      rw [UInt32.toNat_add, h3, h4, this]
      rw [hs, this] at hle
      rw [Nat.mod_eq_of_lt (by omega)]
      omega
    · rename_i h
      have h0 : ((u + v) % 2).toNat ≠ 1 := fun e => h (UInt32.toNat_inj.1 e)
      rw [hbit] at h0
      have : (a ^^^ b).toNat / 2 ^ i % 2 = 0 := by omega
      rw [h3, this]
      omega
  · rw [UInt32.toNat_mul, h4, Nat.pow_succ]; rfl
theorem XorAt.done {a b u v r unit : UInt32} (h : XorAt a b 32 u v r unit) : r = a ^^^ b := by
  obtain ⟨_, _, h3, _⟩ := h
  apply UInt32.toNat_inj.1
  rw [h3, Nat.mod_eq_of_lt (a ^^^ b).toNat_lt]

/-! ### bits of bytes -/
/-- The register after some bits. -/
def fb (c : UInt32) (l : List Bool) : UInt32 := l.foldl (fun c b => stp (c ^^^ if b then 1 else 0)) c
theorem fb_append (c : UInt32) (a b : List Bool) : fb c (a ++ b) = fb (fb c a) b := by simp [fb, List.foldl_append]
/-- k bits of a number, the least first. -/
def bitsOf (k x : Nat) : List Bool := (List.range k).map fun i => x.testBit i
theorem bitsOf_succ (k x : Nat) : bitsOf (k + 1) x = bitsOf k x ++ [x.testBit k] := by simp [bitsOf, List.range_succ]
theorem stp_even {s : UInt32} (h : s &&& 1 = 0) : stp s = s >>> 1 := by
  unfold stp
  rw [h]
  have e : (-(0 : UInt32) &&& 2197175160) = 0 := by decide
  rw [e, xor_zero32]
theorem split_low (x : UInt32) : ∃ y, x = (if x.toNat.testBit 0 then 1 else 0) ^^^ y ∧ y &&& 1 = 0 ∧ y >>> 1 = x >>> 1 := by
  have h2 : (x &&& 1).toNat = x.toNat % 2 := by simp
  have ht : x.toNat.testBit 0 = decide (x.toNat % 2 = 1) := Nat.testBit_zero ..
  refine ⟨(x &&& 1) ^^^ x, ?_, ?_, ?_⟩
  · have e : (if x.toNat.testBit 0 then (1 : UInt32) else 0) = x &&& 1 := by
      rw [ht]
      rcases low_bit x with h | h <;> rw [h] at h2 ⊢
      · rw [← h2]; rfl
      · rw [← h2]; rfl
    rw [e]
    have : (x &&& 1) ^^^ ((x &&& 1) ^^^ x) = ((x &&& 1) ^^^ (x &&& 1)) ^^^ x := by apply UInt32.toBitVec_inj.1; simp only [UInt32.toBitVec_xor]; ac_rfl
    rw [this, xor_self32, zero_xor32]
  · rw [and1_xor]
    rcases low_bit x with h | h <;> rw [h] <;> decide
  · rw [shr_xor]
    rcases low_bit x with h | h <;> rw [h]
    · exact zero_xor32 _
    · exact zero_xor32 _
/-- k steps over c and x together: c with x's bits, and what is left of x. -/
theorem itS_bits (k : Nat) : ∀ (c x : UInt32), ∃ y : UInt32, itS k (c ^^^ x) = fb c (bitsOf k x.toNat) ^^^ y ∧ y.toNat = x.toNat / 2 ^ k := by
  induction k with
  | zero => intro c x; exact ⟨x, rfl, by simp⟩
  | succ k ih =>
    intro c x
    obtain ⟨y, h1, h2⟩ := ih c x
    obtain ⟨z, e1, e2, e3⟩ := split_low y
    have hb : y.toNat.testBit 0 = x.toNat.testBit k := by rw [h2, Nat.testBit_div_two_pow]; simp
    rw [hb] at e1
    refine ⟨y >>> 1, ?_, ?_⟩
    · show stp (itS k (c ^^^ x)) = _
      rw [h1, bitsOf_succ, fb_append]
      conv => lhs; rw [e1]
      have : ∀ a b d : UInt32, a ^^^ (b ^^^ d) = (a ^^^ b) ^^^ d := fun a b d => by apply UInt32.toBitVec_inj.1; simp only [UInt32.toBitVec_xor]; ac_rfl
      rw [this, stp_xor, stp_even e2, e3]
      rfl
    · have : (y >>> 1).toNat = y.toNat / 2 := by simp [Nat.shiftRight_eq_div_pow]
      rw [this, h2, Nat.div_div_eq_div_mul, Nat.pow_succ]
theorem byt_bits (c : UInt32) (x : UInt8) : byt c x = fb c (bitsOf 8 x.toNat) := by
  obtain ⟨y, h1, h2⟩ := itS_bits 8 c x.toUInt32
  have hx := x.toNat_lt
  have : x.toUInt32.toNat = x.toNat := by simp
  rw [this] at h1 h2
  have hy : y = 0 := by apply UInt32.toNat_inj.1; rw [h2]; show x.toNat / 256 = 0; omega
  unfold byt
  rw [h1, hy, xor_zero32]
def bitL (bs : List UInt8) : List Bool := bs.flatMap fun b => bitsOf 8 b.toNat
theorem crc_bits (c : UInt32) (bs : List UInt8) : crc c bs = fb c (bitL bs) := by
  induction bs generalizing c with
  | nil => rfl
  | cons b bs ih => 
    show crc (byt c b) bs = _
    rw [ih, byt_bits]
    simp [bitL, fb_append]
theorem fb_xor : ∀ (a b : List Bool) (c d : UInt32), a.length = b.length → fb (c ^^^ d) (List.zipWith Bool.xor a b) = fb c a ^^^ fb d b
  | [], [], _, _, _ => rfl
  | x :: a, y :: b, c, d, h => by
    have h' : a.length = b.length := by simpa using h
    show fb (stp ((c ^^^ d) ^^^ if (x ^^ y) then 1 else 0)) (List.zipWith Bool.xor a b) = fb (stp (c ^^^ if x then 1 else 0)) a ^^^ fb (stp (d ^^^ if y then 1 else 0)) b
    rw [← fb_xor a b _ _ h', ← stp_xor, xor_ac]
    have e : (if (x ^^ y) then (1 : UInt32) else 0) = (if x then 1 else 0) ^^^ (if y then 1 else 0) := by cases x <;> cases y <;> decide
    rw [e]
  | [], _ :: _, _, _, h => by simp at h
  | _ :: _, [], _, _, h => by simp at h
theorem fb_false (n : Nat) (c : UInt32) : fb c (List.replicate n false) = itS n c := by
  induction n generalizing c with
  | zero => rfl
  | succ n ih =>
    show fb (stp (c ^^^ 0)) (List.replicate n false) = _
    rw [ih, xor_zero32, itS_add n 1]; rfl
theorem fb_mask (m : UInt32) : fb 0 (bitsOf 32 m.toNat) = itS 32 m := by
  obtain ⟨y, h1, h2⟩ := itS_bits 32 0 m
  have hm := m.toNat_lt
  have hy : y = 0 := by apply UInt32.toNat_inj.1; rw [h2]; show m.toNat / 4294967296 = 0; omega
  rw [zero_xor32, hy, xor_zero32] at h1
  exact h1.symm
end Go.Proofs.Ytpjinngngbifoaa
