/-
  FrameForged: for every length, sum and rest, laid by hand or by the document, what frame reads is what the document reads.
-/
import Derived.Test.YtlnkhkkekfjebaaFrm2
import Derived.Test.YtlnkhkkekfjebaaFrmR
set_option linter.unusedSimpArgs false
set_option linter.unusedVariables false
namespace Go.Proofs.Ytlnkhkkekfjebaa
open Go.RowKit

theorem By.drop {w : World} {S : Nat → Prop} {A : Option Addr} {n c k : Nat} {bs : List UInt8} (h : By w S (.slice A n c) bs) (hk : k ≤ bs.length) :
    By w S (.slice (if c = k then A else A.map (·.add k)) (n - k) (c - k)) (bs.drop k) := by
  obtain ⟨A', c', e, h1, h2, h3⟩ := h
  injection e with e1 e2 e3
  subst e1 e2 e3
  have hc := h3.cut (cap := c) hk h1
  have hl : (bs.drop k).length = bs.length - k := List.length_drop
  refine ⟨_, c - k, by rw [hl], by rw [hl]; omega, by omega, ?_⟩
  rw [hl]
  rw [Nat.mul_one] at hc
  rwa [show (cs8 bs).drop k = cs8 (bs.drop k) by simp [cs8]] at hc
theorem byte_of (e : Int) (h : 0 ≤ e ∧ e < 256) : ∃ c : UInt8, e = n8 c :=
  ⟨UInt8.ofNat e.toNat, by unfold n8; rw [UInt8.toNat_ofNat']; omega⟩
set_option maxRecDepth 100000 in
set_option maxHeartbeats 2000000 in
theorem frameforged_walk (n c : UInt32) (right : Bool) (vs : Value) (s : List UInt8) (w : World) (hs : By w (· < w.heap.size) vs s) :
    Calls Try.prog 17 #[.int .u32 (n32 n), .int .u32 (n32 c), .bool right, vs] w (TrueP w) := by
  obtain ⟨B, cb, rfl, hcb, hmb, -⟩ := id hs
  have HS := Lib.hid hs
  unfold maxLen at hmb
  have hnb := n32_bd n
  have hcb' := n32_bd c
  clear hs
  by_cases hlong : 300 < s.length
  · go_enter Try.func17, Try.ntmps17
    go_wp2_with (go_at_call 52; refine (frmbegun_any _).mono ?_; rintro e w1 ⟨rfl, hs1⟩)
    go_ret
    exact ⟨rfl, hs1⟩
  · have hsl : s.length ≤ 300 := by omega
    clear hlong
    go_enter Try.func17, Try.ntmps17
    go_wp2_with (first
      | (go_at_call 52; refine (frmbegun_any _).mono ?_; rintro e w1 ⟨rfl, hs1⟩)
      | (at_builtin; refine stopAt ?_))
    unfold Hid
    obtain ⟨b0, h0⟩ := byte_of (n32 n / 16777216) (by omega)
    obtain ⟨b1, h1⟩ := byte_of (n32 n / 65536 % 256) (by omega)
    obtain ⟨b2, h2⟩ := byte_of (n32 n / 256 % 256) (by omega)
    obtain ⟨b3, h3⟩ := byte_of (n32 n % 256) (by omega)
    obtain ⟨b4, h4⟩ := byte_of (n32 c / 16777216) (by omega)
    obtain ⟨b5, h5⟩ := byte_of (n32 c / 65536 % 256) (by omega)
    obtain ⟨b6, h6⟩ := byte_of (n32 c / 256 % 256) (by omega)
    obtain ⟨b7, h7⟩ := byte_of (n32 c % 256) (by omega)
    rw [h0, h1, h2, h3, h4, h5, h6, h7]
    clear h0 h1 h2 h3 h4 h5 h6 h7
    have hs3 : Same (fun _ => True) w1 (w1.alloc (.cells #[V8 b0, V8 b1, V8 b2, V8 b3, V8 b4, V8 b5, V8 b6, V8 b7] 5)) := (Same.refl _ _).alloc _
    have hs13 := hs1.trans hs3
    have hown3 : OwnB (w1.alloc (.cells #[V8 b0, V8 b1, V8 b2, V8 b3, V8 b4, V8 b5, V8 b6, V8 b7] 5)) w1.heap.size (.slice (some ⟨w1.heap.size, 0, none⟩) 8 8) [b0, b1, b2, b3, b4, b5, b6, b7] :=
      (Row.new w1 5 [V8 b0, V8 b1, V8 b2, V8 b3, V8 b4, V8 b5, V8 b6, V8 b7]).owns (base := w1.heap.size) (size := 1) (n := 8) (cap := 8) (Nat.le_refl _) rfl (Nat.le_refl _) (by simp [maxLen])
    have hz1 := hs1.size
    refine wpList_appL rfl (.tmp 47) (.tmp 48) rfl rfl rfl hown3 (HS.out.keep (hs13.mono fun _ _ _ => trivial)) (by simp) (by simp; omega) ?_
    intro v4 w4 hown4 hs4
    have hs14 := hs13.trans' hs4 (fun k hk _ => by omega)
    clear hown3
    cases right
    · obtain ⟨X, hX⟩ : ∃ X, X = [b0, b1, b2, b3, b4, b5, b6, b7] ++ s := ⟨_, rfl⟩
      rw [← hX] at hown4
      have hXl : X.length ≤ 1000 := by rw [hX]; simp; omega
      obtain ⟨A4, c4, rfl, -, -⟩ := hown4.form
      have HB := Lib.hid (hown4.by_.mono (S' := fun _ => True) fun _ _ _ => trivial)
      have Hs := Lib.hid hs14
      clear hown4 hs14 hs13 hs1 hs3 hs4 hX
      go_wp2_with (go_at_call 53; refine stopAt ?_)
      unfold Hid
      refine (twin_any _ X _ _ HB.out (by omega)).mono ?_
      rintro e w6 ⟨t, tg, rfl, htg, ht, hs6⟩
      obtain ⟨rfl, -⟩ := id ht
      have hmx : X.length + 3 ≤ maxLen := by simp only [maxLen]; omega
      obtain ⟨r, m, e, hx⟩ : ∃ r m e, nextF X 0 = (r, m, e) := ⟨_, _, _, rfl⟩
      have hnx := fnext_any _ X 0 _ w6 (ht.by hmx) (by omega)
      rw [hx] at hnx
      have HX := Lib.hid hx
      have HT := Lib.hid ht
      have H6 := Lib.hid (HB.out.keepAll hs6)
      have Hs6 := Lib.hid (Hs.out.trans hs6)
      clear hx ht hs6
      go_wp2_with (go_at_call 58; refine hnx.mono ?_; rintro e7 w7 ⟨u7, rfl, hu7, hs7⟩; obtain ⟨A7, c7, rfl, -, -⟩ := hu7.form)
      have hrx := rfnext_any _ X 0 _ w7 (H6.out.keepAll hs7) (by omega)
      rw [HX.out] at hrx
      clear hnx
      go_wp2_with (first | (go_at_call 56; refine hk.mono ?_; rintro e9 w9 ⟨rfl, e9⟩; subst e9) | (go_at_call 59; refine hrx.mono ?_; rintro e8 w8 ⟨u8, rfl, hu8, hs8⟩; obtain ⟨A8, c8, rfl, -, -⟩ := hu8.form; have v1 := conv_by (hu7.by_.keepAll hs8); have v2 := conv_by hu8.by_; have hk := kept_any _ _ X tg _ w8 ((HT.out.keep hs7 trivial).keep hs8 trivial) ((H6.out.keepAll hs7).keepAll hs8) (by omega)))
      go_ret
      exact ⟨rfl, (Hs6.out.trans hs7).trans hs8⟩
    · by_cases hn : n.toNat ≤ s.length
      · have hnI : n32 n ≤ (s.length : Int) := by unfold n32; omega
        have hq := fun W (h : Same (fun _ => True) w W) => rfput_any (.slice none 0 0) (.slice B n.toNat cb) [] (s.take n.toNat) (fun _ => True) (· < w.heap.size) W (By.none_ _ _ _ _ (by simp [maxLen])) (by
          obtain ⟨A', c', e, h1, h2, h3⟩ := HS.out.keep (h.mono (S' := (· < w.heap.size)) fun _ _ _ => trivial)
          injection e with e1 e2 e3
          subst e1 e3
          have ht := h3.take (k := n.toNat) hn
          have hl2 : (s.take n.toNat).length = n.toNat := by simp; omega
          refine ⟨B, cb, by rw [hl2], by rw [hl2]; omega, by simp only [maxLen]; omega, ?_⟩
          rw [hl2]
          rwa [Nat.mul_one, show (cs8 s).take n.toNat = cs8 (s.take n.toNat) by simp [cs8, List.map_take]] at ht) (by simp) (by simp; omega)
        simp only [List.nil_append] at hq
        have hdr := fun W (h : Same (fun _ => True) w W) => (HS.out.keep (h.mono (S' := (· < w.heap.size)) fun _ _ _ => trivial)).drop (k := n.toNat) hn
        have hNc : n.toNat ≤ cb := by omega
        have hNI : (n.toNat : Int) ≤ (s.length : Int) := by omega
        obtain ⟨A4, c4, rfl, -, -⟩ := hown4.formN (n := 8 + s.length) (by simp; omega)
        have Hq := Lib.hid hq
        have Hdr := Lib.hid hdr
        have Hs4 := Lib.hid hs14
        have hL : (recF (s.take n.toNat)).length = 8 + n.toNat := by rw [recF_len]; simp; omega
        have HL := Lib.hid hL
        clear hq hdr hown4 hs14 hs13 hs1 hs3 hs4 hL
        by_cases hck : cb = n.toNat
        · subst hck
          go_wp2_with (first
            | (go_at_call 55; refine (Hq.out _ Hs4.out).mono ?_; rintro e5 w5 ⟨u5, rfl, hu5, hs5⟩; obtain ⟨A5, c5, rfl, -, -⟩ := hu5.formN HL.out)
            | (at_builtin; refine stopAt ?_))
          unfold Hid
          have hs15 := Hs4.out.trans hs5
          have hdr := Hdr.out _ hs15
          simp only [if_true, Nat.sub_self] at hdr
          refine wpList_appL rfl (.tmp 65) (.tmp 68) rfl rfl rfl hu5 hdr hs5.size (by rw [HL.out]; simp; omega) ?_
          intro v6 w6 hown6 hs6
          have hs16 := hs15.trans' hs6 (fun k hk _ => by have := Hs4.out.size; omega)
          obtain ⟨X, hX⟩ : ∃ X, X = recF (s.take n.toNat) ++ s.drop n.toNat := ⟨_, rfl⟩
          have hXl : X.length ≤ 1000 := by rw [hX, List.length_append, HL.out, List.length_drop]; omega
          rw [← hX] at hown6
          obtain ⟨A6, c6, rfl, -, -⟩ := hown6.form
          have HB := Lib.hid (hown6.by_.mono (S' := fun _ => True) fun _ _ _ => trivial)
          have Hs := Lib.hid hs16
          clear hown6 hs16 hs15 hs5 hs6 hX hdr hu5
          go_wp2_with (go_at_call 53; refine stopAt ?_)
          unfold Hid
          refine (twin_any _ X _ _ HB.out (by omega)).mono ?_
          rintro e w9 ⟨t, tg, rfl, htg, ht, hs9⟩
          obtain ⟨rfl, -⟩ := id ht
          have hmx : X.length + 3 ≤ maxLen := by simp only [maxLen]; omega
          obtain ⟨r, m, e, hx⟩ : ∃ r m e, nextF X 0 = (r, m, e) := ⟨_, _, _, rfl⟩
          have hnx := fnext_any _ X 0 _ w9 (ht.by hmx) (by omega)
          rw [hx] at hnx
          have HX := Lib.hid hx
          have HT := Lib.hid ht
          have H9 := Lib.hid (HB.out.keepAll hs9)
          have Hs9 := Lib.hid (Hs.out.trans hs9)
          clear hx ht hs9
          go_wp2_with (go_at_call 58; refine hnx.mono ?_; rintro e7 w7 ⟨u7, rfl, hu7, hs7⟩; obtain ⟨A7, c7, rfl, -, -⟩ := hu7.form)
          have hrx := rfnext_any _ X 0 _ w7 (H9.out.keepAll hs7) (by omega)
          rw [HX.out] at hrx
          clear hnx
          go_wp2_with (first | (go_at_call 56; refine hk.mono ?_; rintro e10 w10 ⟨rfl, e10⟩; subst e10) | (go_at_call 59; refine hrx.mono ?_; rintro e8 w8 ⟨u8, rfl, hu8, hs8⟩; obtain ⟨A8, c8, rfl, -, -⟩ := hu8.form; have v1 := conv_by (hu7.by_.keepAll hs8); have v2 := conv_by hu8.by_; have hk := kept_any _ _ X tg _ w8 ((HT.out.keep hs7 trivial).keep hs8 trivial) ((H9.out.keepAll hs7).keepAll hs8) (by omega)))
          go_ret
          exact ⟨rfl, (Hs9.out.trans hs7).trans hs8⟩
        · go_wp2_with (first
            | (go_at_call 55; refine (Hq.out _ Hs4.out).mono ?_; rintro e5 w5 ⟨u5, rfl, hu5, hs5⟩; obtain ⟨A5, c5, rfl, -, -⟩ := hu5.formN HL.out)
            | (at_builtin; refine stopAt ?_))
          unfold Hid
          have hs15 := Hs4.out.trans hs5
          have hdr := Hdr.out _ hs15
          rw [if_neg hck] at hdr
          refine wpList_appL rfl (.tmp 65) (.tmp 68) rfl rfl rfl hu5 hdr hs5.size (by rw [HL.out]; simp; omega) ?_
          intro v6 w6 hown6 hs6
          have hs16 := hs15.trans' hs6 (fun k hk _ => by have := Hs4.out.size; omega)
          obtain ⟨X, hX⟩ : ∃ X, X = recF (s.take n.toNat) ++ s.drop n.toNat := ⟨_, rfl⟩
          have hXl : X.length ≤ 1000 := by rw [hX, List.length_append, HL.out, List.length_drop]; omega
          rw [← hX] at hown6
          obtain ⟨A6, c6, rfl, -, -⟩ := hown6.form
          have HB := Lib.hid (hown6.by_.mono (S' := fun _ => True) fun _ _ _ => trivial)
          have Hs := Lib.hid hs16
          clear hown6 hs16 hs15 hs5 hs6 hX hdr hu5
          go_wp2_with (go_at_call 53; refine stopAt ?_)
          unfold Hid
          refine (twin_any _ X _ _ HB.out (by omega)).mono ?_
          rintro e w9 ⟨t, tg, rfl, htg, ht, hs9⟩
          obtain ⟨rfl, -⟩ := id ht
          have hmx : X.length + 3 ≤ maxLen := by simp only [maxLen]; omega
          obtain ⟨r, m, e, hx⟩ : ∃ r m e, nextF X 0 = (r, m, e) := ⟨_, _, _, rfl⟩
          have hnx := fnext_any _ X 0 _ w9 (ht.by hmx) (by omega)
          rw [hx] at hnx
          have HX := Lib.hid hx
          have HT := Lib.hid ht
          have H9 := Lib.hid (HB.out.keepAll hs9)
          have Hs9 := Lib.hid (Hs.out.trans hs9)
          clear hx ht hs9
          go_wp2_with (go_at_call 58; refine hnx.mono ?_; rintro e7 w7 ⟨u7, rfl, hu7, hs7⟩; obtain ⟨A7, c7, rfl, -, -⟩ := hu7.form)
          have hrx := rfnext_any _ X 0 _ w7 (H9.out.keepAll hs7) (by omega)
          rw [HX.out] at hrx
          clear hnx
          go_wp2_with (first | (go_at_call 56; refine hk.mono ?_; rintro e10 w10 ⟨rfl, e10⟩; subst e10) | (go_at_call 59; refine hrx.mono ?_; rintro e8 w8 ⟨u8, rfl, hu8, hs8⟩; obtain ⟨A8, c8, rfl, -, -⟩ := hu8.form; have v1 := conv_by (hu7.by_.keepAll hs8); have v2 := conv_by hu8.by_; have hk := kept_any _ _ X tg _ w8 ((HT.out.keep hs7 trivial).keep hs8 trivial) ((H9.out.keepAll hs7).keepAll hs8) (by omega)))
          go_ret
          exact ⟨rfl, (Hs9.out.trans hs7).trans hs8⟩
      · have hnI : (s.length : Int) < n32 n := by unfold n32; omega
        obtain ⟨X, hX⟩ : ∃ X, X = [b0, b1, b2, b3, b4, b5, b6, b7] ++ s := ⟨_, rfl⟩
        rw [← hX] at hown4
        have hXl : X.length ≤ 1000 := by rw [hX]; simp; omega
        obtain ⟨A4, c4, rfl, -, -⟩ := hown4.form
        have HB := Lib.hid (hown4.by_.mono (S' := fun _ => True) fun _ _ _ => trivial)
        have Hs := Lib.hid hs14
        clear hown4 hs14 hs13 hs1 hs3 hs4 hX
        go_wp2_with (go_at_call 53; refine stopAt ?_)
        unfold Hid
        refine (twin_any _ X _ _ HB.out (by omega)).mono ?_
        rintro e w6 ⟨t, tg, rfl, htg, ht, hs6⟩
        obtain ⟨rfl, -⟩ := id ht
        have hmx : X.length + 3 ≤ maxLen := by simp only [maxLen]; omega
        obtain ⟨r, m, e, hx⟩ : ∃ r m e, nextF X 0 = (r, m, e) := ⟨_, _, _, rfl⟩
        have hnx := fnext_any _ X 0 _ w6 (ht.by hmx) (by omega)
        rw [hx] at hnx
        have HX := Lib.hid hx
        have HT := Lib.hid ht
        have H6 := Lib.hid (HB.out.keepAll hs6)
        have Hs6 := Lib.hid (Hs.out.trans hs6)
        clear hx ht hs6
        go_wp2_with (go_at_call 58; refine hnx.mono ?_; rintro e7 w7 ⟨u7, rfl, hu7, hs7⟩; obtain ⟨A7, c7, rfl, -, -⟩ := hu7.form)
        have hrx := rfnext_any _ X 0 _ w7 (H6.out.keepAll hs7) (by omega)
        rw [HX.out] at hrx
        clear hnx
        go_wp2_with (first | (go_at_call 56; refine hk.mono ?_; rintro e9 w9 ⟨rfl, e9⟩; subst e9) | (go_at_call 59; refine hrx.mono ?_; rintro e8 w8 ⟨u8, rfl, hu8, hs8⟩; obtain ⟨A8, c8, rfl, -, -⟩ := hu8.form; have v1 := conv_by (hu7.by_.keepAll hs8); have v2 := conv_by hu8.by_; have hk := kept_any _ _ X tg _ w8 ((HT.out.keep hs7 trivial).keep hs8 trivial) ((H6.out.keepAll hs7).keepAll hs8) (by omega)))
        go_ret
        exact ⟨rfl, (Hs6.out.trans hs7).trans hs8⟩
open Go.ChangeShapes Go.WideShapes Go.ChangeAt
set_option maxRecDepth 100000 in
theorem frameForged_law {H : Type} {enc : TypeId × Value → H} : LawWalk Try.prog 17 Try.f17 H enc := by
  intro W base args ds ps hval hA
  rw [Try.params17] at hval
  have hA : DataW.TrodAll enc Try.prog W 0 (fun _ => true) true [23, 23, 4, 27] args ds ps := hA
  obtain ⟨v0, vs0, d0, ds0, p0, q0, hargs, rfl, rfl, h0, r0⟩ := trodAll_cons hA
  obtain ⟨v1, vs1, d1, ds1, p1, q1, rfl, rfl, rfl, h1, r1⟩ := trodAll_cons r0
  obtain ⟨v2, vs2, d2, ds2, p2, q2, rfl, rfl, rfl, h2, r2⟩ := trodAll_cons r1
  obtain ⟨v3, vs3, d3, ds3, p3, q3, rfl, rfl, rfl, h3, r3⟩ := trodAll_cons r2
  obtain ⟨rfl, rfl, rfl⟩ := trodAll_nil r3
  subst hargs
  obtain ⟨x0, rfl, rfl, rfl, g0⟩ := open_int Try.underlying23 (hval 0 23 v0 rfl rfl) h0
  rw [u32_of_wf g0]
  obtain ⟨x1, rfl, rfl, rfl, g1⟩ := open_int Try.underlying23 (hval 1 23 v1 rfl rfl) h1
  rw [u32_of_wf g1]
  obtain ⟨x2, rfl, rfl, rfl⟩ := open_bool Try.underlying4 (hval 2 4 v2 rfl rfl) h2
  obtain ⟨x3, g3⟩ := open_bytes (hval 3 27 v3 rfl rfl) h3
  exact frameforged_walk _ _ x2 _ x3 W g3
end Go.Proofs.Ytlnkhkkekfjebaa
