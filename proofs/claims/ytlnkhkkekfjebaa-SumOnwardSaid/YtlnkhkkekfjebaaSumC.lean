/-
  SumCuts: for every bytes and sizes, the sum goes on over the pieces as over the whole.
-/
import Derived.Test.YtlnkhkkekfjebaaSumL
namespace Go.Proofs.Ytlnkhkkekfjebaa
open Go.RowKit Go.ChangeShapes Go.WideShapes Go.ChangeAt

theorem more_flat (ps : List (List UInt8)) (k : Nat) (h : k < ps.length) : moreF (ofF (ps.take k)) ps[k] = ofF (ps.take (k + 1)) := (ofF_take ps k h).symm
theorem ofF_one (bs : List UInt8) : ofF [bs] = moreF 0 bs := rfl
theorem ofF_parts (ps : List (List UInt8)) (bs : List UInt8) (h : ps.flatten = bs) : ofF ps = ofF [bs] := by rw [ofF_flat, h, ofF_one]
theorem ofF_nil : ofF [] = 0 := rfl
/-- One part, laid into a new row of one cell. -/
theorem by_one {w : World} {S : Nat → Prop} {A : Option Addr} {c : Nat} {bs : List UInt8} (h : By w S (.slice A bs.length c) bs) (hs : S w.heap.size) :
    ByL (w.alloc (.cells #[.slice A bs.length c] 27)) S (.slice (some ⟨w.heap.size, 0, none⟩) 1 1) [bs] :=
  ⟨_, _, [.slice A bs.length c], rfl, by simp, by simp [maxLen], sl_one w S _ _ hs, fun i u x hu hx => by
    match i, hu, hx with
    | 0, hu, hx =>
      simp at hu hx
      subst hu hx
      exact (h.mono (S' := S) fun _ _ h => h).keep ((Same.refl S w).alloc _)
    | i + 1, hu, _ => simp at hu⟩

set_option maxHeartbeats 1000000 in
theorem sumcuts_walk (v v2 : Value) (bs : List UInt8) (ns : List Int) (S S2 : Nat → Prop) (w : World) (hv : By w S v bs) (hv2 : Ints w S2 v2 ns) :
    Calls Try.prog 4 #[v, v2] w (TrueP w) := by
  have hv' := hv.mono (S' := fun _ => True) fun _ _ _ => trivial
  have hw' := hv2
  obtain ⟨A, cap, rfl, hc1, hm, hs⟩ := hv
  obtain ⟨A2, cap2, rfl, hc2, hm2, hs2⟩ := hv2
  unfold maxLen at hm hm2
  clear hs hs2
  by_cases h1 : 8192 < bs.length
  · go_enter Try.func4, Try.ntmps4
    go_wp2_with (go_at_call 26; refine (sumbegun_any _).mono ?_; rintro e w1 ⟨rfl, hs1⟩)
    go_ret
    exact ⟨rfl, hs1⟩
  · by_cases h2 : 512 < ns.length
    · go_enter Try.func4, Try.ntmps4
      go_wp2_with (go_at_call 26; refine (sumbegun_any _).mono ?_; rintro e w1 ⟨rfl, hs1⟩)
      go_ret
      exact ⟨rfl, hs1⟩
    · have HB := Lib.hid hv'
      have HI := Lib.hid hw'
      have hnil : ∀ w : World, ByL w (fun _ => True) (.slice none 0 0) [] := fun w => ⟨none, 0, [], rfl, by simp, by simp [maxLen], Sl.nil _ _ _ _, by simp⟩
      have HN := Lib.hid hnil
      clear hv' hw' hnil
      go_enter Try.func4, Try.ntmps4
      go_wp2_with (first | (go_at_call 26; refine (sumbegun_any _).mono ?_; rintro e w1 ⟨rfl, hs1⟩; have hv1 := HB.out.keep hs1; have hi1 := HI.out.keep (hs1.mono fun _ _ _ => trivial)) | (go_at_call 35; refine (cut_any _ _ _ _ _ _ _ hv1 hi1 (by omega) (by omega)).mono ?_; rintro e w2 ⟨u, ps, rfl, hol, hfl, hs2⟩; have HF := Lib.hid hfl; clear hfl; have hv2 := hv1.keep hs2; have hl2 := hol.list; obtain ⟨A3, c3, vs, rfl, hc3, hm3, hsl3, hel3⟩ := hol.list; unfold maxLen at hm3) | (go_at_call 30; refine (of_any _ [] _ _ (HN.out _)).mono ?_; rintro e w4 ⟨rfl, rfl⟩; rw [ofF_nil]))
      have Hl := Lib.hid hl2
      have H12 := Lib.hid (hs1.trans hs2)
      clear hl2 hol hs1 hs2 hv1 hi1
      go_loop [6, 7] (fun r i => ∃ k : Nat, k ≤ ps.length ∧ i = .int .i64 k ∧ r = .int .u32 (n32 (ofF (ps.take k)))) (fun _ i => ps.length - (intOf i).toNat)
      case atStart => exact ⟨0, by omega, rfl, rfl⟩
      case round =>
        obtain ⟨k, hk, rfl, rfl⟩ := hrel
        by_cases hlt : k < ps.length
        · obtain ⟨ad, u, rfl, hS, hu, hcell⟩ := hsl3.at_ hlt
          have hb := hel3 k u ps[k] hu (by simp [hlt])
          have H := Lib.hid (more_flat ps k hlt)
          clear hsl3 hel3 hu
          go_wp2_with (go_at_call 32; refine (more_any _ _ _ _ _ hb).mono ?_; rintro e w' ⟨rfl, rfl⟩)
          go_round
          case rel => exact ⟨k + 1, by omega, by go_num, by rw [H.out]⟩
          case measure => simp [intOf]; omega
        · obtain rfl : k = ps.length := by omega
          have hfin : ofF (ps.take ps.length) = ofF [bs] := by rw [List.take_length]; exact ofF_parts _ _ HF.out
          rw [hfin]
          have hfin2 := Lib.hid (ofF_parts _ _ HF.out)
          clear hsl3 hel3 hfin
          have hone := by_one hv2 trivial
          go_wp2_with fail
          refine (of_any _ [bs] _ _ hone).mono ?_
          rintro e w4 ⟨rfl, rfl⟩
          go_wp2_with fail
          refine (of_any _ ps _ _ (Hl.out.keep (((Same.refl (fun _ => True) _).alloc _).mono fun _ _ _ => trivial))).mono ?_
          rintro e w4 ⟨rfl, rfl⟩
          rw [hfin2.out]
          go_wp2
          go_ret
          exact ⟨rfl, (H12.out).alloc _⟩

set_option maxRecDepth 100000 in
theorem sumCuts_law {H : Type} {enc : TypeId × Value → H} : LawWalk Try.prog 4 Try.f4 H enc := by
  intro W base args ds ps hval hA
  rw [Try.params4] at hval
  have hA : DataW.TrodAll enc Try.prog W 0 (fun _ => true) true [27, 34] args ds ps := hA
  obtain ⟨v0, vs0, d0, ds0, p0, q0, hargs, rfl, rfl, h0, r0⟩ := trodAll_cons hA
  obtain ⟨v1, vs1, d1, ds1, p1, q1, rfl, rfl, rfl, h1, r1⟩ := trodAll_cons r0
  obtain ⟨rfl, rfl, rfl⟩ := trodAll_nil r1
  subst hargs
  obtain ⟨bs, h2⟩ := open_bytes (hval 0 27 v0 rfl rfl) h0
  obtain ⟨ns, h3⟩ := open_intsl (hval 1 34 v1 rfl rfl) h1
  exact sumcuts_walk _ _ bs ns _ _ W h2 h3
end Go.Proofs.Ytlnkhkkekfjebaa
