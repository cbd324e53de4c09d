/-
  FrameWrites: for every bytes and every record, what frame lays is what the document lays; nothing that was handed in is turned.
-/
import Derived.Test.YtlnkhkkekfjebaaFrmB
import Derived.Test.YtlnkhkkekfjebaaFrmR
set_option linter.unusedSimpArgs false
set_option linter.unusedVariables false
namespace Go.Proofs.Ytlnkhkkekfjebaa
open Go.RowKit

set_option maxRecDepth 100000 in
set_option maxHeartbeats 2000000 in
theorem framewrites_walk (vb vr : Value) (b r : List UInt8) (w : World) (hb : By w (· < w.heap.size) vb b) (hr : By w (· < w.heap.size) vr r) :
    Calls Try.prog 12 #[vb, vr] w (TrueP w) := by
  obtain ⟨A, ca, rfl, hca, hma, -⟩ := id hb
  obtain ⟨B, cb, rfl, hcb, hmb, -⟩ := id hr
  have HB := Lib.hid hb
  have HR := Lib.hid hr
  unfold maxLen at hma hmb
  clear hb hr
  by_cases hlong : 16384 < b.length ∨ 16384 < r.length
  · rcases hlong with h | h
    all_goals
      go_enter Try.func12, Try.ntmps12
      go_wp2_with (go_at_call 52; refine (frmbegun_any _).mono ?_; rintro e w1 ⟨rfl, hs1⟩)
      all_goals
        go_ret
        exact ⟨rfl, hs1⟩
  · have hbl : b.length ≤ 16384 := by omega
    have hrl : r.length ≤ 16384 := by omega
    clear hlong
    go_enter Try.func12, Try.ntmps12
    go_wp2_with (first
      | (go_at_call 52; refine (frmbegun_any _).mono ?_; rintro e w1 ⟨rfl, hs1⟩)
      | (go_at_call 53; refine stopAt ?_))
    unfold Hid
    refine (twin_any _ b _ _ (HB.out.keep (hs1.mono fun _ _ _ => trivial)) (by omega)).mono ?_
    rintro e w2 ⟨t, tg, rfl, htg, ht, hs2⟩
    obtain ⟨rfl, -⟩ := id ht
    have hs12 := hs1.trans hs2
    go_wp2_with (go_at_call 53; refine stopAt ?_)
    unfold Hid
    refine (twin_any _ r _ _ (HR.out.keep (hs12.mono fun _ _ _ => trivial)) (by omega)).mono ?_
    rintro e w3 ⟨u, ug, rfl, hug, hu, hs3⟩
    obtain ⟨rfl, -⟩ := id hu
    have hs13 := hs12.trans hs3
    have ht3 := ht.keep hs3 trivial
    have htl := ht3.2.lt
    have hul := hu.2.lt
    have hmt : b.length + 3 ≤ maxLen := by simp only [maxLen]; omega
    have hmu : r.length + 3 ≤ maxLen := by simp only [maxLen]; omega
    have hp := fput_any _ _ b r _ _ w3 (ht3.by hmt) (hu.by hmu) (by omega) (by omega)
    go_wp2_with (go_at_call 54; refine hp.mono ?_; rintro e w4 ⟨x, rfl, hx, hs4⟩; obtain ⟨A4, c4, rfl, -, -⟩ := hx.formN (n := b.length + (8 + r.length)) (by simp [recF_len]))
    have hs14 := hs13.trans hs4
    have hq := rfput_any _ _ b r _ _ w4 (HB.out.keep (hs14.mono fun _ _ _ => trivial)) (HR.out.keep (hs14.mono fun _ _ _ => trivial)) (by omega) (by omega)
    go_wp2_with (first | (go_at_call 55; refine hq.mono ?_; rintro e w5 ⟨y, rfl, hy, hs5⟩; obtain ⟨A5, c5, rfl, -, -⟩ := hy.formN (n := b.length + (8 + r.length)) (by simp [recF_len]); have hv1 := conv_by (hx.by_.keepAll hs5); have hv2 := conv_by hy.by_) | (go_at_call 56; refine stopAt ?_))
    unfold Hid
    have hs45 := hs4.trans hs5
    have hs15 := hs14.trans hs5
    have ht5 := ht3.keep hs45 trivial
    have hu5 := hu.keep hs45 trivial
    have hk1 := kept_any _ _ b tg _ w5 ht5 (HB.out.keep (hs15.mono fun _ _ _ => trivial)) (by omega)
    have hk2 := kept_any _ _ r ug _ w5 hu5 (HR.out.keep (hs15.mono fun _ _ _ => trivial)) (by omega)
    refine hk1.mono ?_
    rintro e w6 ⟨rfl, e6⟩
    subst e6
    go_wp2_with (first | (go_at_call 56; refine hk2.mono ?_; rintro e w7 ⟨rfl, e7⟩; subst e7) | (go_at_call 57; refine stopAt ?_))
    unfold Hid
    have hx5 := hx.keepAll hs5
    have hfar : ∀ k, k < w3.heap.size → some k ≠ (Value.slice A4 (b.length + (8 + r.length)) c4).ownBlock := fun k hk e => by have := (hx.lt_ e.symm).1; omega
    refine (spoil_any _ _ _ _ _ hx5).mono ?_
    rintro e w8 ⟨rfl, hs8⟩
    have ht8 := ht5.keep hs8 (hfar tg htl)
    have hs18 := hs15.trans' hs8 (fun k hk _ => hfar k (by have := hs13.size; omega))
    have hk3 := kept_any _ _ b tg _ w8 ht8 (HB.out.keep (hs18.mono fun _ _ _ => trivial)) (by omega)
    have Hs18 := Lib.hid hs18
    clear hs18 hs15 hs45 hs14 hs13 hs12 hs1 hs2 hs3 hs4 hs5 hs8 hk1 hk2 hp hq hx hy hx5 hv1 hv2
    go_wp2_with (go_at_call 56; refine hk3.mono ?_; rintro e w9 ⟨rfl, e9⟩; subst e9)
    go_ret
    exact ⟨rfl, Hs18.out⟩
open Go.ChangeShapes Go.WideShapes Go.ChangeAt
set_option maxRecDepth 100000 in
theorem frameWrites_law {H : Type} {enc : TypeId × Value → H} : LawWalk Try.prog 12 Try.f12 H enc := by
  intro W base args ds ps hval hA
  rw [Try.params12] at hval
  have hA : DataW.TrodAll enc Try.prog W 0 (fun _ => true) true [27, 27] args ds ps := hA
  obtain ⟨v0, vs0, d0, ds0, p0, q0, hargs, rfl, rfl, h0, r0⟩ := trodAll_cons hA
  obtain ⟨v1, vs1, d1, ds1, p1, q1, rfl, rfl, rfl, h1, r1⟩ := trodAll_cons r0
  obtain ⟨rfl, rfl, rfl⟩ := trodAll_nil r1
  subst hargs
  obtain ⟨x0, g0⟩ := open_bytes (hval 0 27 v0 rfl rfl) h0
  obtain ⟨x1, g1⟩ := open_bytes (hval 1 27 v1 rfl rfl) h1
  exact framewrites_walk _ _ x0 x1 W g0 g1
end Go.Proofs.Ytlnkhkkekfjebaa
