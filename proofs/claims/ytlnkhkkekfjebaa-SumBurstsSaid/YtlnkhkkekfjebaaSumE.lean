/-
  SumBursts: for every bytes, place and mask, bytes of which a run of at most 32 bits was turned have another sum, unless none was turned.
-/
import Derived.Test.YtlnkhkkekfjebaaSumC
import Derived.StillTailTactics
namespace Go.Proofs.Ytlnkhkkekfjebaa
open Go.RowKit Go.ChangeShapes Go.WideShapes Go.ChangeAt

/-- Bit i of a mask. -/
def bitM (m : UInt32) (i : Nat) : Bool := m.toNat.testBit i
/-- The bytes behind i rounds. -/
def flipTo (bs : List UInt8) (p : Nat) (m : UInt32) : Nat → List UInt8
  | 0 => bs
  | i + 1 => if bitM m i then (flipTo bs p m i).set ((p + i) / 8) ((flipTo bs p m i).getD ((p + i) / 8) 0 ^^^ UInt8.ofNat (2 ^ ((p + i) % 8))) else flipTo bs p m i
theorem flipTo_len (bs : List UInt8) (p : Nat) (m : UInt32) (i : Nat) : (flipTo bs p m i).length = bs.length := by
  induction i with
  | zero => rfl
  | succ i ih => unfold flipTo; split <;> simp [ih]

theorem bit_test (m : UInt32) (k : Nat) (hk : k < 32) : (bits .and .u32 (n32 m / 2 ^ k) 1 == 1) = bitM m k := by
  have h1 : n32 m / 2 ^ k = n32 (UInt32.ofNat (m.toNat / 2 ^ k)) := by
    have hm := m.toNat_lt
    have : m.toNat / 2 ^ k < 4294967296 := Nat.lt_of_le_of_lt (Nat.div_le_self _ _) hm
    unfold n32
    rw [UInt32.toNat_ofNat', Nat.mod_eq_of_lt this]
    simp
  rw [h1, u32_and1, u32_is1]
  unfold bitM
  have hx : ∀ x : UInt32, ((x &&& 1) == 1) = x.toNat.testBit 0 := fun x => by
    have h2 : (x &&& 1).toNat = x.toNat % 2 := by simp
    rw [Nat.testBit_zero, Bool.eq_iff_iff, beq_iff_eq, decide_eq_true_eq, ← h2, ← UInt32.toNat_inj]
    rfl
  rw [hx]
  have hm := m.toNat_lt
  have : m.toNat / 2 ^ k < 4294967296 := Nat.lt_of_le_of_lt (Nat.div_le_self _ _) hm
  rw [UInt32.toNat_ofNat', Nat.mod_eq_of_lt this, Nat.testBit_div_two_pow]
  simp
theorem pow8 (r : Nat) (h : r < 8) : (2 : Int) ^ r % 256 = n8 (UInt8.ofNat (2 ^ r)) := by
  match r, h with
  | 0, _ => rfl
  | 1, _ => rfl
  | 2, _ => rfl
  | 3, _ => rfl
  | 4, _ => rfl
  | 5, _ => rfl
  | 6, _ => rfl
  | 7, _ => rfl
theorem bitL_len (l : List UInt8) : (bitL l).length = 8 * l.length := by
  induction l with
  | nil => rfl
  | cons b l ih =>
    have e : bitL (b :: l) = bitsOf 8 b.toNat ++ bitL l := rfl
    rw [e, List.length_append, ih]
    simp [bitsOf]; omega
theorem bitL_get : ∀ (l : List UInt8) (j : Nat), j < 8 * l.length → (bitL l)[j]? = some ((l.getD (j / 8) 0).toNat.testBit (j % 8)) := by
  intro l
  induction l with
  | nil => intro j h; simp at h
  | cons b l ih =>
    intro j h
    have e : bitL (b :: l) = bitsOf 8 b.toNat ++ bitL l := rfl
    have hl : (bitsOf 8 b.toNat).length = 8 := by simp [bitsOf]
    rw [e]
    by_cases hj : j < 8
    · rw [List.getElem?_append_left (by omega)]
      have h1 : j / 8 = 0 := by omega
      have h2 : j % 8 = j := by omega
      rw [h1, h2]
      simp [bitsOf, hj]
    · rw [List.getElem?_append_right (by omega), hl, ih (j - 8) (by simp at h; omega)]
      have h1 : j / 8 = (j - 8) / 8 + 1 := by omega
      have h2 : j % 8 = (j - 8) % 8 := by omega
      rw [h1, h2]
      rfl
theorem bit_pow (x : UInt8) (r s : Nat) (hr : r < 8) (hs : s < 8) : (x ^^^ UInt8.ofNat (2 ^ r)).toNat.testBit s = (x.toNat.testBit s ^^ decide (r = s)) := by
  have : (UInt8.ofNat (2 ^ r)).toNat = 2 ^ r := by
    rw [UInt8.toNat_ofNat']
    apply Nat.mod_eq_of_lt
    exact Nat.pow_lt_pow_right (by omega) hr
  rw [UInt8.toNat_xor, Nat.testBit_xor, this, Nat.testBit_two_pow]
theorem flip_bit (bs : List UInt8) (p : Nat) (m : UInt32) : ∀ (i : Nat), p + i ≤ 8 * bs.length → ∀ j, j < 8 * bs.length →
    ((flipTo bs p m i).getD (j / 8) 0).toNat.testBit (j % 8) = ((bs.getD (j / 8) 0).toNat.testBit (j % 8) ^^ (decide (p ≤ j ∧ j < p + i) && bitM m (j - p))) := by
  intro i
  induction i with
  | zero =>
    intro _ j _
    have : decide (p ≤ j ∧ j < p + 0) = false := by simp <;> omega
    rw [this]; simp [flipTo]
  | succ i ih =>
    intro hi j hj
    have hih := ih (by omega) j hj
    unfold flipTo
    by_cases hb : bitM m i = true
    · rw [if_pos hb]
      by_cases hq : j / 8 = (p + i) / 8
      · rw [hq]
        have hlen : (p + i) / 8 < (flipTo bs p m i).length := by rw [flipTo_len]; omega
        have : ((flipTo bs p m i).set ((p + i) / 8) ((flipTo bs p m i).getD ((p + i) / 8) 0 ^^^ UInt8.ofNat (2 ^ ((p + i) % 8)))).getD ((p + i) / 8) 0 = (flipTo bs p m i).getD ((p + i) / 8) 0 ^^^ UInt8.ofNat (2 ^ ((p + i) % 8)) := by
          simp [List.getD, List.getElem?_set, hlen]
        rw [this, bit_pow _ _ _ (by omega) (by omega)]
        rw [hq] at hih
        rw [hih, Bool.xor_assoc]
        congr 1
        by_cases hj2 : j = p + i
        · subst hj2
          have e1 : decide (p ≤ p + i ∧ p + i < p + i) = false := by simp
          have e2 : decide (p ≤ p + i ∧ p + i < p + (i + 1)) = true := by simp
          rw [e1, e2, show p + i - p = i from by omega, hb]
          simp
        · have e1 : decide ((p + i) % 8 = j % 8) = false := by simp <;> omega
          have e2 : decide (p ≤ j ∧ j < p + (i + 1)) = decide (p ≤ j ∧ j < p + i) := by
            rw [Bool.eq_iff_iff]; simp <;> omega
          rw [e1, e2]; simp
      · have : ((flipTo bs p m i).set ((p + i) / 8) ((flipTo bs p m i).getD ((p + i) / 8) 0 ^^^ UInt8.ofNat (2 ^ ((p + i) % 8)))).getD (j / 8) 0 = (flipTo bs p m i).getD (j / 8) 0 := by
          simp [List.getD, List.getElem?_set, Ne.symm hq]
        rw [this, hih]
        have e2 : decide (p ≤ j ∧ j < p + (i + 1)) = decide (p ≤ j ∧ j < p + i) := by
          rw [Bool.eq_iff_iff]; simp <;> omega
        rw [e2]
    · rw [if_neg hb, hih]
      congr 1
      by_cases hj2 : j = p + i
      · subst hj2
        have e1 : decide (p ≤ p + i ∧ p + i < p + i) = false := by simp
        have hb' : bitM m i = false := by simpa using hb
        rw [e1, show p + i - p = i from by omega, hb']
        simp
      · have e2 : decide (p ≤ j ∧ j < p + (i + 1)) = decide (p ≤ j ∧ j < p + i) := by
          rw [Bool.eq_iff_iff]; simp <;> omega
        rw [e2]
/-- The turned bits, as a row of bits. -/
def turned (n p : Nat) (m : UInt32) : List Bool := List.replicate p false ++ (bitsOf 32 m.toNat ++ List.replicate (n - p - 32) false)
theorem turned_get (n p : Nat) (m : UInt32) (h : p + 32 ≤ n) (j : Nat) (hj : j < n) : (turned n p m)[j]? = some (decide (p ≤ j ∧ j < p + 32) && bitM m (j - p)) := by
  unfold turned
  have hl : (bitsOf 32 m.toNat).length = 32 := by simp [bitsOf]
  by_cases h1 : j < p
  · rw [List.getElem?_append_left (by simpa using h1)]
    have : decide (p ≤ j ∧ j < p + 32) = false := by simp <;> omega
    rw [this]; simp [h1]
  · rw [List.getElem?_append_right (by simp; omega), List.length_replicate]
    by_cases h2 : j - p < 32
    · rw [List.getElem?_append_left (by omega)]
      have : decide (p ≤ j ∧ j < p + 32) = true := by simp <;> omega
      rw [this]
      simp [bitsOf, h2, bitM]
    · rw [List.getElem?_append_right (by omega), hl]
      have : decide (p ≤ j ∧ j < p + 32) = false := by simp <;> omega
      rw [this]
      have h3 : j - p - 32 < n - p - 32 := by omega
      simp [h3]
theorem bitL_flip (bs : List UInt8) (p : Nat) (m : UInt32) (h : p + 32 ≤ 8 * bs.length) : bitL (flipTo bs p m 32) = List.zipWith Bool.xor (bitL bs) (turned (8 * bs.length) p m) := by
  have hT : (turned (8 * bs.length) p m).length = 8 * bs.length := by simp [turned, bitsOf]; omega
  apply List.ext_getElem?
  intro j
  by_cases hj : j < 8 * bs.length
  · rw [bitL_get _ _ (by rw [flipTo_len]; exact hj), List.getElem?_zipWith, bitL_get _ _ hj, turned_get _ _ _ h _ hj, flip_bit bs p m 32 h j hj]
  · rw [List.getElem?_eq_none (by rw [bitL_len, flipTo_len]; omega), List.getElem?_eq_none (by rw [List.length_zipWith, bitL_len, hT]; omega)]
theorem crc_flip (c : UInt32) (bs : List UInt8) (p : Nat) (m : UInt32) (h : p + 32 ≤ 8 * bs.length) : crc c (flipTo bs p m 32) = crc c bs ^^^ itS (8 * bs.length - p - 32) (itS 32 m) := by
  have hT : (turned (8 * bs.length) p m).length = 8 * bs.length := by simp [turned, bitsOf]; omega
  rw [crc_bits, crc_bits, bitL_flip bs p m h]
  conv => lhs; rw [← xor_zero32 c]
  rw [fb_xor _ _ _ _ (by rw [bitL_len, hT])]
  congr 1
  unfold turned
  rw [fb_append, fb_append, fb_false, fb_false, itS_zero, fb_mask]
theorem burst (bs : List UInt8) (p : Nat) (m : UInt32) (h : p + 32 ≤ 8 * bs.length) : ofF [bs] = ofF [flipTo bs p m 32] ↔ m = 0 := by
  simp only [ofF_one, moreF]
  rw [crc_flip _ _ _ _ h]
  constructor
  · intro e
    have e1 := congrArg (fun x => ~~~ x) e
    simp only [not_not32] at e1
    have e2 : itS (8 * bs.length - p - 32) (itS 32 m) = 0 := by
      have e3 := congrArg (fun x => crc (~~~ 0) bs ^^^ x) e1
      simp only [xor_self32] at e3
      have e4 : ∀ a b : UInt32, a ^^^ (a ^^^ b) = b := fun a b => by
        have : a ^^^ (a ^^^ b) = (a ^^^ a) ^^^ b := by apply UInt32.toBitVec_inj.1; simp only [UInt32.toBitVec_xor]; ac_rfl
        rw [this, xor_self32, zero_xor32]
      rw [e4] at e3
      exact e3.symm
    exact itS_eq_zero (itS_eq_zero e2)
  · rintro rfl
    rw [itS_zero, itS_zero, xor_zero32]

set_option maxRecDepth 100000 in
set_option maxHeartbeats 1000000 in
theorem sumbursts_walk (v : Value) (bs : List UInt8) (at_ : Int) (m : UInt32) (S : Nat → Prop) (w : World) (hv : By w S v bs) (hat : -9223372036854775808 ≤ at_ ∧ at_ ≤ 9223372036854775807) :
    Calls Try.prog 5 #[v, .int .i64 at_, .int .u32 (n32 m)] w (TrueP w) := by
  have hv' := hv.mono (S' := fun _ => True) fun _ _ _ => trivial
  obtain ⟨A, cap, rfl, hc1, hm, hs⟩ := hv
  unfold maxLen at hm
  clear hs
  by_cases h1 : 4096 < bs.length
  · clear hv'
    go_enter Try.func5, Try.ntmps5
    go_wp2_with (go_at_call 26; refine (sumbegun_any _).mono ?_; rintro e w1 ⟨rfl, hs1⟩)
    go_ret
    exact ⟨rfl, hs1⟩
  · by_cases h2 : bs.length < 5
    · clear hv'
      go_enter Try.func5, Try.ntmps5
      go_wp2_with (go_at_call 26; refine (sumbegun_any _).mono ?_; rintro e w1 ⟨rfl, hs1⟩)
      go_ret
      exact ⟨rfl, hs1⟩
    · have hpl := placeF_bd at_ (8 * ((bs.length : Int) - 4))
      obtain ⟨p, hp⟩ : ∃ p : Nat, placeF at_ (8 * ((bs.length : Int) - 4)) = p := ⟨(placeF at_ (8 * ((bs.length : Int) - 4))).toNat, by omega⟩
      have hplt : p < 8 * (bs.length - 4) := by have := hpl.2 (by omega); omega
      have HB := Lib.hid hv'
      clear hpl hv'
      go_enter Try.func5, Try.ntmps5
      go_wp2_with (first | (go_at_call 26; refine (sumbegun_any _).mono ?_; rintro e w1 ⟨rfl, hs1⟩) | (at_builtin; refine stopAt ?_))
      unfold Hid
      have hby := (HB.out.keep hs1).keep ((Same.refl (fun _ => True) _).alloc (.cells #[] 5))
      obtain ⟨A', c', he, hc', hm', hsl⟩ := hby
      simp only [Value.slice.injEq] at he
      obtain ⟨rfl, -, rfl⟩ := he
      refine wpList_app T8 _ rfl _ _ rfl w1.heap.size _ 0 [] rfl (World.ownsRow_made _ _ 0 (Nat.le_refl _) (by simp [maxLen]) (by simp)) (fun _ => True) _ _ _ _ rfl hsl (oneCell8 _) (by simp only [maxLen]; omega) (by omega) (by simp) ?_
      intro v2 w2 hown hs2 hat2
      have hs12 : Same (fun _ => True) w1 w2 := ((Same.refl _ _).alloc _).trans' hs2 (fun i hi _ e => by have e' : some i = some w1.heap.size := e; injection e' with e'; omega)
      rw [Nat.zero_add, List.nil_append] at hown
      rcases ownsRow_row hown with ⟨_, h0, _⟩ | ⟨g, cap2, cur, rfl, hg, hrow, hnc, hcm, hcl, hx⟩
      · omega
      obtain ⟨tl, rfl⟩ : ∃ tl, cur = cs8 bs ++ tl := ⟨cur.drop bs.length, by rw [Nat.mul_one] at hx; rw [← hx, List.take_append_drop]⟩
      unfold maxLen at hcm
      have H12 := Lib.hid hs1
      have HS := Lib.hid hs12
      have HR := Lib.hid hrow
      have Hsz := Lib.hid hs1.size
      clear hown hs2 hat2 hx hcl hsl hs12 hs1 hm' hc' hrow
      go_wp2_with (first | (go_at_call 36; refine (place_any _ _ _ hat (by omega)).mono ?_; rintro e w3 ⟨rfl, rfl⟩; rw [hp]))
      go_loopw [8] (fun i wr => ∃ k : Nat, k ≤ 32 ∧ i = .int .i64 k ∧ Row wr g 5 (cs8 (flipTo bs p m k) ++ tl) ∧ Same (fun _ => True) w1 wr) (fun i _ => 32 - (intOf i).toNat)
      case atStart => exact ⟨0, by omega, rfl, HR.out, HS.out⟩
      case round =>
        obtain ⟨k, hk, rfl, hr, hsm⟩ := hrel
        by_cases hlt : k < 32
        · have hk0 : (0 : Int) ≤ (k : Int) := by omega
          obtain ⟨t, htt⟩ : ∃ t, t = p + k := ⟨_, rfl⟩
          obtain ⟨q, hq⟩ : ∃ q, q = t / 8 := ⟨_, rfl⟩
          obtain ⟨r, hr8⟩ : ∃ r, r = t % 8 := ⟨_, rfl⟩
          have hqb : q < bs.length := by omega
          have hq1 : (q : Int) < (bs.length : Int) := by omega
          have hq0 : (0 : Int) ≤ (q : Int) := by omega
          have hr0 : (0 : Int) ≤ (r : Int) := by omega
          have hrlt : r < 8 := by omega
          have hw1 : IntKind.i64.wrap ((p : Int) + (k : Int)) = (t : Int) := by rw [IntWalk.i64_in _ (by omega)]; omega
          have hw2 : IntKind.i64.wrap ((t : Int) / 8) = (q : Int) := by
            rw [IntWalk.i64_in _ (by omega)]; omega
          have hw3 : (t : Int).tmod 8 = (r : Int) := by rw [Int.tmod_eq_emod_of_nonneg (by omega)]; omega
          obtain ⟨old, hold⟩ : ∃ old, old = (flipTo bs p m k).getD q 0 := ⟨_, rfl⟩
          have hcell : wr.cell? ⟨g, q, none⟩ = some (V8 old) := by
            rw [hr.cell, List.getElem?_append_left (by simp [cs8, flipTo_len]; omega), hold]
            simp [cs8, List.getD, flipTo_len, hqb]
          have hfr := hr.frozen q
          have Ht := Lib.hid htt
          have Hq := Lib.hid hq
          have Hr := Lib.hid hr8
          clear htt hq hr8
          have Hold := Lib.hid hold
          have ht := bit_test m k hlt
          by_cases hb : bitM m k = true
          · rw [hb] at ht
            clear hold
            go_wp2
            go_still_tail 14, (by kernel_rfl)
            go_wp2
            go_roundw
            case rel =>
              refine ⟨k + 1, by omega, by go_num, ?_, (hsm.setCell (fun h => absurd h (by show ¬ g < _; omega)) _).drew⟩
              have h3 := hr.set_ q (V8 (old ^^^ UInt8.ofNat (2 ^ r)))
              rw [pow8 r hrlt, u8_xor]
              have e : flipTo bs p m (k + 1) = (flipTo bs p m k).set q (old ^^^ UInt8.ofNat (2 ^ r)) := by
                have e1 := Ht.out
                have e2 := Hq.out
                have e3 := Hr.out
                rw [flipTo, if_pos hb, Hold.out, e3, e2, e1]
              rw [e]
              have e4 : (cs8 (flipTo bs p m k) ++ tl).set q (V8 (old ^^^ UInt8.ofNat (2 ^ r))) = cs8 ((flipTo bs p m k).set q (old ^^^ UInt8.ofNat (2 ^ r))) ++ tl := by
                rw [List.set_append_left _ _ (by simp [cs8, flipTo_len]; omega)]
                simp [cs8, List.map_set]
              rw [e4] at h3
              exact h3
            case measure => simp [intOf]; omega
          · rw [show bitM m k = false by simpa using hb] at ht
            go_wp2
            go_roundw
            case rel => exact ⟨k + 1, by omega, by go_num, by unfold flipTo; rw [if_neg hb]; exact hr, hsm⟩
            case measure => simp [intOf]; omega
        · obtain rfl : k = 32 := by omega
          obtain ⟨F, hF⟩ : ∃ F, F = flipTo bs p m 32 := ⟨_, rfl⟩
          have hb32 := burst bs p m (by omega)
          rw [← hF] at hb32 hr
          have hFl : F.length = bs.length := by rw [hF, flipTo_len]
          have Hfl := Lib.hid hFl
          have Hb := Lib.hid hb32
          have hbF : By wr (fun _ => True) (.slice (some ⟨g, 0, none⟩) bs.length cap2) F := by
            refine ⟨_, cap2, by rw [hFl], by omega, by simp only [maxLen]; omega, ?_⟩
            have h5 := hr.sl (size := 1) (off := 0) (n := bs.length) (by simp [cs8]; omega)
            have e : ((cs8 F ++ tl).drop 0).take (bs.length * 1) = cs8 F := by
              rw [List.drop_zero, Nat.mul_one, List.take_append_of_le_length (by simp [cs8]; omega), List.take_of_length_le (by simp [cs8]; omega)]
            rw [e] at h5
            rw [hFl]
            exact h5.mono (S' := fun _ => True) (fun _ _ _ => trivial) (by omega)
          have h12r := H12.out.trans hsm
          have hbb := HB.out.keep h12r
          have HbF := Lib.hid hbF
          have Hbb := Lib.hid hbb
          have HS2 := Lib.hid h12r
          clear hF hb32 hFl hbF hbb h12r hr hsm
          go_wp2_with (go_at_call 30; refine stopAt ?_)
          unfold Hid
          refine (of_any _ [bs] _ _ (by_one Hbb.out trivial)).mono ?_
          rintro e w4 ⟨rfl, rfl⟩
          go_wp2_with (go_at_call 30; refine stopAt ?_)
          unfold Hid
          refine (of_any _ [F] (fun _ => True) _ ?_).mono ?_
          · have h6 := HbF.out.keep ((Same.refl (fun _ => True) _).alloc (.cells #[.slice A bs.length cap] 27))
            have h7 := Hfl.out
            rw [← h7] at h6 ⊢
            have h8 := by_one h6 trivial
            simpa using h8
          rintro e w4 ⟨rfl, rfl⟩
          have hfin : ((n32 (ofF [bs]) == n32 (ofF [F])) == (n32 m == 0)) = true := by
            have e1 : (n32 (ofF [bs]) == n32 (ofF [F])) = (ofF [bs] == ofF [F]) := by
              rw [Bool.eq_iff_iff, beq_iff_eq, beq_iff_eq]; exact n32_inj
            have e2 : (n32 m == 0) = (m == 0) := by
              rw [Bool.eq_iff_iff, beq_iff_eq, beq_iff_eq]; exact n32_inj (b := 0)
            rw [e1, e2, beq_iff_eq, Bool.eq_iff_iff, beq_iff_eq, beq_iff_eq]
            exact Hb.out
          go_wp2
          go_ret
          exact ⟨rfl, ((HS2.out).alloc _).alloc _⟩

set_option maxRecDepth 100000 in
theorem sumBursts_law {H : Type} {enc : TypeId × Value → H} : LawWalk Try.prog 5 Try.f5 H enc := by
  intro W base args ds ps hval hA
  rw [Try.params5] at hval
  have hA : DataW.TrodAll enc Try.prog W 0 (fun _ => true) true [27, 3, 23] args ds ps := hA
  obtain ⟨v0, vs0, d0, ds0, p0, q0, hargs, rfl, rfl, h0, r0⟩ := trodAll_cons hA
  obtain ⟨v1, vs1, d1, ds1, p1, q1, rfl, rfl, rfl, h1, r1⟩ := trodAll_cons r0
  obtain ⟨v2, vs2, d2, ds2, p2, q2, rfl, rfl, rfl, h2, r2⟩ := trodAll_cons r1
  obtain ⟨rfl, rfl, rfl⟩ := trodAll_nil r2
  subst hargs
  obtain ⟨x0, g0⟩ := open_bytes (hval 0 27 v0 rfl rfl) h0
  obtain ⟨x1, rfl, rfl, rfl, g1⟩ := open_int Try.underlying3 (hval 1 3 v1 rfl rfl) h1
  obtain ⟨x2, rfl, rfl, rfl, g2⟩ := open_int Try.underlying23 (hval 2 23 v2 rfl rfl) h2
  rw [u32_of_wf g2]
  exact sumbursts_walk _ x0 _ _ _ W g0 (i64_of_wf g1)
end Go.Proofs.Ytlnkhkkekfjebaa
