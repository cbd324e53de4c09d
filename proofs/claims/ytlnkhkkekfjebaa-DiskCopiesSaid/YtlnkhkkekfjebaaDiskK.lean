/-
  DiskCopies: for every two runs of operations, a copy goes on by itself.
-/
import Derived.Test.YtlnkhkkekfjebaaDiskC
set_option linter.unusedSimpArgs false
set_option linter.unusedVariables false
namespace Go.Proofs.Ytlnkhkkekfjebaa
open Go.RowKit Go.ChangeMaps Go.MapKept

set_option maxRecDepth 100000 in
set_option maxHeartbeats 2000000 in
theorem diskcopies_walk (vo vm : Value) (ops more : List OpM) (w : World) (ho : SlOf cOp w (· < w.heap.size) vo ops) (hm : SlOf cOp w (· < w.heap.size) vm more) :
    Calls Try.prog 18 #[vo, vm] w (TrueP w) := by
  have hlg := fun W (h : Same (fun _ => True) w W) => light_any vo ops 40 (· < w.heap.size) W (ho.keep (h.mono fun _ _ _ => trivial)) (by decide)
  have hlm := fun W (h : Same (fun _ => True) w W) => light_any vm more 40 (· < w.heap.size) W (hm.keep (h.mono fun _ _ _ => trivial)) (by decide)
  have ho' := ho
  obtain ⟨A, ca, rfl, hca, hma, -⟩ := ho'
  have hm' := hm
  obtain ⟨A', ca', rfl, hca', hma', -⟩ := hm'
  have HO := Lib.hid ho
  have HM := Lib.hid hm
  unfold maxLen at hma hma'
  clear ho hm
  cases hl : light 40 ops
  · rw [hl] at hlg
    clear hl
    go_enter Try.func18, Try.ntmps18
    go_wp2_with (first
      | (go_at_call 37; refine (diskbegun_any _).mono ?_; rintro e w1 ⟨rfl, hs1⟩)
      | (go_at_call 42; refine (hlg _ hs1).mono ?_; rintro e w' ⟨rfl, rfl⟩))
    go_ret
    exact ⟨rfl, hs1⟩
  rw [hl] at hlg
  obtain ⟨ho40, hoe⟩ := light_out hl
  have HOE := Lib.hid hoe
  clear hl hoe
  cases hl : light 40 more
  · rw [hl] at hlm
    clear hl
    go_enter Try.func18, Try.ntmps18
    go_wp2_with (first
      | (go_at_call 37; refine (diskbegun_any _).mono ?_; rintro e w1 ⟨rfl, hs1⟩)
      | (go_at_call 42; refine stopAt ?_))
    unfold Hid
    refine (hlg _ hs1).mono ?_
    rintro e w' ⟨rfl, rfl⟩
    go_wp2_with (go_at_call 42; refine (hlm _ hs1).mono ?_; rintro e w' ⟨rfl, rfl⟩)
    go_ret
    exact ⟨rfl, hs1⟩
  rw [hl] at hlm
  obtain ⟨hm40, hme⟩ := light_out hl
  have HME := Lib.hid hme
  clear hl hme
  go_enter Try.func18, Try.ntmps18
  go_wp2_with (first
    | (go_at_call 37; refine (diskbegun_any _).mono ?_; rintro e w1 ⟨rfl, hs1⟩)
    | (go_at_call 42; refine stopAt ?_))
  unfold Hid
  refine (hlg _ hs1).mono ?_
  rintro e w' ⟨rfl, rfl⟩
  go_wp2_with (first
    | (go_at_call 42; refine (hlm _ hs1).mono ?_; rintro e w' ⟨rfl, rfl⟩)
    | (go_at_call 38; refine (dnew_any _).mono ?_; rintro e w2 ⟨g, r, rfl, hg, hr, hd1, hs2⟩)
    | (go_at_call 46; refine (rnew_any _).mono ?_; rintro e w3 ⟨h, rfl, hh, hr1, hs3⟩))
  have hz1 := hs1.size
  have hz2 := hs2.size
  have hgl := hd1.2.1
  have hrl := hd1.2.2.1
  have hs13 := Lib.hid ((hs1.trans hs2).trans hs3)
  have HB : Hid (Both w3 g r h (fun _ => False) DiskM.new) := Lib.hid ⟨hd1.keepAll hs3, hr1, by omega, by omega, fun k hk => hk.elim⟩
  clear hd1 hs1 hs2 hs3 hr1 hlg hlm
  go_loopw [7] (fun i wr => ∃ (k : Nat) (d : DiskM) (F : Nat → Prop), k ≤ ops.length ∧ i = .int .i64 k ∧ Hid (Small d k) ∧ Hid (Both wr g r h F d) ∧ Hid (Same (fun _ => True) w wr)) (fun i _ => ops.length - (intOf i).toNat)
  case atStart => exact ⟨0, _, _, by omega, rfl, Lib.hid Small.new, HB, hs13⟩
  case round =>
    obtain ⟨k, d, F, hk, rfl, HI, hb, hsm⟩ := hrel
    clear HB hs13
    by_cases hlt : k < ops.length
    · obtain ⟨ad, vb, vk, rfl, hadb, c0, c1, c2, c3, c4, hby, hkp, wk, wf, wn⟩ := op_at (HO.out.keep (hsm.out.mono fun _ _ _ => trivial)) hlt
      have HBY := Lib.hid hby
      have HKP := Lib.hid hkp
      obtain ⟨A1, c1', rfl, -⟩ := hby
      obtain ⟨A2, c2', rfl, -⟩ := hkp
      have hlen := HOE.out k hlt
      have hz := hsm.out.size
      have hdo := do_any g r h F (· < w.heap.size) d k ops[k] _ _ wr hb HI.out (by omega) HBY HKP (fun j hj => by refine ⟨?_, ?_, ?_, ?_⟩ <;> omega) hlen.1 wk wn
      have hsml := Lib.hid (HI.out.do_ ops[k] hlen.1 wn.2)
      clear HBY HKP HI hb
      go_wp2_with (go_at_call 47; refine hdo.mono ?_; rintro e w5 ⟨rfl, F', hb', hs'⟩)
      have HB' := Lib.hid hb'
      have hsm' := hsm.out.trans' hs' (fun k hk _ => by refine ⟨?_, ?_, ?_⟩ <;> omega)
      have Hsm' := Lib.hid hsm'
      clear hb' hs' hsm hsm' hdo
      go_roundw
      case rel => exact ⟨k + 1, _, F', by omega, by go_num, hsml, HB', Hsm'⟩
      case measure => simp [intOf]; omega
    · obtain rfl : k = ops.length := by omega
      have hn0 := HI.out.n0
      have hn1 := HI.out.n1
      have hcp := dcopy_any g r F d wr hb.out.1 ⟨by omega, by omega⟩
      go_wp2_with (first
        | (go_at_call 62; refine hcp.mono ?_; rintro e w4 ⟨g2, r2, F2, rfl, hg2, hr2, hF2, hd2, hs4⟩; have hcr := rcopy_any h d w4 (hb.out.keepAll hs4).2.1)
        | (go_at_call 63; refine hcr.mono ?_; rintro e w5 ⟨h2, rfl, hh2, hr5, hs5⟩))
      have hz4 := hs4.size
      have hz5 := hs5.size
      have hs15 := Lib.hid ((hsm.out.trans hs4).trans hs5)
      have hgl2 := hd2.2.1
      have hrl2 := hd2.2.2.1
      have HB : Hid (Both w5 g2 r2 h2 F2 d) := Lib.hid ⟨hd2.keepAll hs5, hr5, by omega, by omega, fun k hk => by have := (hd2.2.2.2.2.1 k hk).1; omega⟩
      have HO5 : Hid (Both w5 g r h F d) := Lib.hid ((hb.out.keepAll hs4).keepAll hs5)
      have hgw := hb.out.1.2.1
      have hrw := hb.out.1.2.2.1
      have hhw := hb.out.2.1.lt
      have HFw : Hid (∀ k, F k → k < wr.heap.size) := Lib.hid fun k hk => (hb.out.1.2.2.2.2.1 k hk).1
      have hzw := hsm.out.size
      clear hcp hd2 hs4 hs5 hr5 hb hsm hcr hF2
      go_loopw [10] (fun i wq => ∃ (k : Nat) (d2 : DiskM) (F2 : Nat → Prop), k ≤ more.length ∧ i = .int .i64 k ∧ Hid (Small d2 (ops.length + k)) ∧ Hid (Both wq g2 r2 h2 F2 d2) ∧ Hid (Both wq g r h F d) ∧ Hid (Same (fun _ => True) w wq)) (fun i _ => more.length - (intOf i).toNat)
      case atStart => exact ⟨0, _, _, by omega, rfl, HI, HB, HO5, hs15⟩
      case round =>
        obtain ⟨k, d2, F2, hk, rfl, HI2, hb2, hb, hsm⟩ := hrel
        clear HB HO5 hs15
        by_cases hlt2 : k < more.length
        · obtain ⟨ad, vb, vk, rfl, hadb, c0, c1, c2, c3, c4, hby, hkp, wk, wf, wn⟩ := op_at (HM.out.keep (hsm.out.mono fun _ _ _ => trivial)) hlt2
          have HBY := Lib.hid hby
          have HKP := Lib.hid hkp
          obtain ⟨A1, c1', rfl, -⟩ := hby
          obtain ⟨A2, c2', rfl, -⟩ := hkp
          have hlen := HME.out k hlt2
          have hz := hsm.out.size
          have hdo := do_any g2 r2 h2 F2 (· < w.heap.size) d2 _ more[k] _ _ _ hb2 HI2.out (by omega) HBY HKP (fun j hj => by refine ⟨?_, ?_, ?_, ?_⟩ <;> omega) hlen.1 wk wn
          have hsml := Lib.hid (HI2.out.do_ more[k] hlen.1 wn.2)
          clear HBY HKP HI2 hb2
          go_wp2_with (go_at_call 47; refine hdo.mono ?_; rintro e w5 ⟨rfl, F', hb', hs'⟩)
          have HB' := Lib.hid hb'
          have Hb' := Lib.hid (hb.out.keep hs' (by refine ⟨?_, ?_, ?_⟩ <;> omega) (by refine ⟨?_, ?_, ?_⟩ <;> omega) (by refine ⟨?_, ?_, ?_⟩ <;> omega) (fun k hk => by have := HFw.out k hk; refine ⟨?_, ?_, ?_⟩ <;> omega))
          have Hsm' := Lib.hid (hsm.out.trans' hs' (fun k hk _ => by refine ⟨?_, ?_, ?_⟩ <;> omega))
          clear hb' hs' hsm hdo hb
          go_roundw
          case rel => exact ⟨k + 1, _, F', by omega, by go_num, hsml, HB', Hb', Hsm'⟩
          case measure => simp [intOf]; omega
        · obtain rfl : k = more.length := by omega
          have hm0 := HI2.out.n0
          have hm1 := HI2.out.n1
          have hsame2 := same_any g2 r2 h2 F2 d2 _ hb2 (by omega) (by omega)
          go_wp2_with (go_at_call 48; refine stopAt ?_)
          unfold Hid
          refine hsame2.mono ?_
          rintro e w7 ⟨rfl, hs7⟩
          have hsame := same_any g r h F d w7 (Lib.hid (hb.out.keepAll hs7)) (by omega) (by omega)
          clear hsame2
          go_wp2_with (go_at_call 48; refine hsame.mono ?_; rintro e w8 ⟨rfl, hs8⟩)
          go_ret
          exact ⟨rfl, (hsm.out.trans hs7).trans hs8⟩
open Go.ChangeShapes Go.WideShapes Go.ChangeAt
set_option maxRecDepth 100000 in
theorem diskCopies_law {H : Type} {enc : TypeId × Value → H} : LawWalk Try.prog 18 Try.f18 H enc := by
  intro W base args ds ps hval hA
  rw [Try.params18] at hval
  have hA : DataW.TrodAll enc Try.prog W 0 (fun _ => true) true [49, 49] args ds ps := hA
  obtain ⟨v0, vs0, d0, ds0, p0, q0, hargs, rfl, rfl, h0, r0⟩ := trodAll_cons hA
  obtain ⟨v1, vs1, d1, ds1, p1, q1, rfl, rfl, rfl, h1, r1⟩ := trodAll_cons r0
  obtain ⟨rfl, rfl, rfl⟩ := trodAll_nil r1
  subst hargs
  obtain ⟨x0, g0⟩ := open_ops (hval 0 49 v0 rfl rfl) h0
  obtain ⟨x1, g1⟩ := open_ops (hval 1 49 v1 rfl rfl) h1
  exact diskcopies_walk _ _ x0 x1 W g0 g1
end Go.Proofs.Ytlnkhkkekfjebaa
