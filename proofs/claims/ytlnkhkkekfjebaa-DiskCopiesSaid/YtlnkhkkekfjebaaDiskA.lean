/-
  DiskAll: for every run of operations, the disk answers as the document's does, and says the same behind each.
-/
import Derived.Test.YtlnkhkkekfjebaaDiskD
import Derived.Test.YtlnkhkkekfjebaaDiskL
set_option linter.unusedSimpArgs false
set_option linter.unusedVariables false
namespace Go.Proofs.Ytlnkhkkekfjebaa
open Go.RowKit Go.ChangeMaps Go.MapKept

set_option maxRecDepth 100000 in
set_option maxHeartbeats 1000000 in
theorem same_any (g r h : Nat) (F : Nat → Prop) (d : DiskM) (w : World) (H : Hid (Both w g r h F d)) (hl0 : d.f0.b.length ≤ 4000000) (hl1 : d.f1.b.length ≤ 4000000) :
    Calls Try.prog 48 #[ptr g, ptr h] w (TrueP w) := by
  have hdead := fun n => ((ddead_any g r F d (w.drewN n) (H.out.keepAll ((Same.refl _ _).drewN n)).1).mono (fun e w' h => (⟨h.1, h.2.symm⟩ : e = .returned (.bool d.off) ∧ w' = w.drewN n)))
  have hlives := fun n => ((dlives_any g r F d (w.drewN n) (H.out.keepAll ((Same.refl _ _).drewN n)).1).mono (fun e w' h => (⟨h.1, h.2.symm⟩ : e = .returned (.int .i64 d.lives) ∧ w' = w.drewN n)))
  have hsteps := fun n => ((dsteps_any g r F d (w.drewN n) (H.out.keepAll ((Same.refl _ _).drewN n)).1).mono (fun e w' h => (⟨h.1, h.2.symm⟩ : e = .returned (.int .i64 d.steps) ∧ w' = w.drewN n)))
  obtain ⟨-, c4, c5, c6, c7⟩ := H.out.2.1.cells
  have hlen : ∀ f, (d.file f).b.length ≤ 4000000 := fun f => by unfold DiskM.file; split <;> assumption
  have Hlen := Lib.hid hlen
  clear hlen
  go_enter Try.func48, Try.ntmps48
  go_wp2
  go_quiet ((first | (go_at_call 50; exact Calls.quiet_of_same (hdead _)) | (go_at_call 64; exact Calls.quiet_of_same (hlives _)) | (go_at_call 51; exact Calls.quiet_of_same (hsteps _))))
  go_wp2
  have hQ : Hid (Same (fun _ => True) w (w.drewN nq)) := Lib.hid ((Same.refl _ _).drewN nq)
  generalize w.drewN nq = W at *
  clear hdead hlives hsteps c4 c5 c6 c7
  go_loopw [5] (fun i wr => ∃ k : Nat, k ≤ 2 ∧ i = .int .i64 k ∧ Hid (Same (fun _ => True) w wr)) (fun i _ => 2 - (intOf i).toNat)
  case atStart => exact ⟨0, by omega, rfl, hQ⟩
  case round =>
    obtain ⟨k, hk, rfl, hsm⟩ := hrel
    clear hQ
    by_cases hlt : k < 2
    · have hb := H.out.keepAll hsm.out
      have hltI : (k : Int) < 2 := by omega
      have hlk := Hlen.out (k : Int)
      go_wp2_with (go_at_call 41; refine stopAt ?_)
      unfold Hid
      refine (dread_any g r F d k _ hb.1 (by omega)).mono ?_
      rintro e w1 ⟨u, rfl, hu, hs1⟩
      have hrd := rread_any h d k w1 (hb.keepAll hs1).2.1
      obtain ⟨A, c, rfl, -, hcm, hsl⟩ := own_by hu
      have hcv : (convert 27 9 (.slice A (d.read k).1.length c)).run Try.prog w1 = .ok (.string (str (d.read k).1)) w1 :=
        conv_str (P := Try.prog) c 27 9 5 Try.underlying27 Try.underlying5 Try.underlying9 hsl
      have hsm1 := Lib.hid (hsm.out.trans hs1)
      clear hu hsl hs1 hsm hb
      generalize (d.read k).1 = bs at *
      generalize (d.read k).2 = x at *
      go_wp2_with (go_at_call 86; refine hrd.mono ?_; rintro e w2 ⟨rfl, rfl⟩)
      go_roundw
      case rel => exact ⟨k + 1, by omega, by go_num, hsm1⟩
      case measure => simp [intOf]; omega
    · obtain rfl : k = 2 := by omega
      go_wp2
      go_ret
      exact ⟨rfl, hsm.out⟩
/-- What bounds a disk behind m operations. -/
abbrev Small (d : DiskM) (m : Nat) : Prop := LastInv d 0 [] m
theorem Small.new : Small DiskM.new 0 := ⟨by simp, by simp, by simp [DiskM.new], by simp [DiskM.new], by simp [DiskM.new], by simp [DiskM.new], by simp [DiskM.new], by simp [DiskM.new], by simp [DiskM.new]⟩
theorem Small.do_ {d : DiskM} {m : Nat} (h : Small d m) (o : OpM) (hb : o.b.length ≤ 1000) (hn : o.n ≤ 9223372036854775807) : Small (o.do_ d) (m + 1) := by
  unfold OpM.do_
  have hcl : Small (d.clear o.f).2 (m + 1) := by
    unfold DiskM.clear
    split
    · exact h.more
    · rename_i hm
      exact LastInv.step h (.inl rfl) o.f (DiskM.may_zero (by simpa using hm)) _ (by simp) (by simp) (fun _ => by simp)
  split
  · exact LastInv.append h (.inl rfl) _ _ hb
  split
  · exact LastInv.sync h (.inl rfl) _
  split
  · exact hcl
  split
  · exact h.more
  split
  · exact LastInv.arm h _ hn
  · exact LastInv.power h (.inl rfl) _
theorem do_any (g r h : Nat) (F S : Nat → Prop) (d : DiskM) (m : Nat) (o : OpM) (vb vk : Value) (w : World) (H : Hid (Both w g r h F d)) (hs : Small d m) (hm : m ≤ 1000)
    (hB : Hid (By w S vb o.b)) (hK : Hid (Ints w S vk o.keep)) (hS : ∀ k, S k → k < w.heap.size ∧ k ≠ g ∧ k ≠ r ∧ k ≠ h) (ho : o.b.length ≤ 1000)
    (hk : -9223372036854775808 ≤ o.kind ∧ o.kind ≤ 9223372036854775807) (hn : -9223372036854775808 ≤ o.n ∧ o.n ≤ 9223372036854775807) :
    Calls Try.prog 47 #[ptr g, ptr h, .agg #[.int .i64 o.kind, .int .i64 o.f, .int .i64 o.n, vb, vk]] w (DoPost g r h w (o.do_ d)) := by
  have hfit := LastInv.fit hs hm
  have hok := LastInv.okk hs
  have hlv : d.lives < 1000000 := by have := hs.lives; omega
  have hl0 : d.f0.b.length ≤ 4000000 := by have := hs.n0; omega
  have hl1 : d.f1.b.length ≤ 4000000 := by have := hs.n1; omega
  have hp := placeF_bd o.kind 6
  have hp2 := hp.2 (by omega)
  unfold OpM.do_
  by_cases h0 : placeF o.kind 6 = 0
  · rw [if_pos h0]; exact do_append g r h F S d o vb vk w H hfit hok hlv hl0 hl1 hB hK hS ho hk hn h0
  rw [if_neg h0]
  by_cases h1 : placeF o.kind 6 = 1
  · rw [if_pos h1]; exact do_sync g r h F S d o vb vk w H hfit hok hlv hl0 hl1 hB hK hS ho hk hn h1
  rw [if_neg h1]
  by_cases h2 : placeF o.kind 6 = 2
  · rw [if_pos h2]; exact do_clear g r h F S d o vb vk w H hfit hok hlv hl0 hl1 hB hK hS ho hk hn h2
  rw [if_neg h2]
  by_cases h3 : placeF o.kind 6 = 3
  · rw [if_pos h3]; exact do_read g r h F S d o vb vk w H hfit hok hlv hl0 hl1 hB hK hS ho hk hn h3
  rw [if_neg h3]
  by_cases h4 : placeF o.kind 6 = 4
  · rw [if_pos h4]; exact do_arm g r h F S d o vb vk w H hfit hok hlv hl0 hl1 hB hK hS ho hk hn h4
  rw [if_neg h4]
  exact do_power g r h F S d o vb vk w H hfit hok hlv hl0 hl1 hB hK hS ho hk hn (by omega)
set_option maxRecDepth 100000 in
set_option maxHeartbeats 1000000 in
theorem diskall_walk (vo : Value) (ops : List OpM) (w : World) (ho : SlOf cOp w (· < w.heap.size) vo ops) :
    Calls Try.prog 10 #[vo] w (TrueP w) := by
  have hlg := fun W (h : Same (fun _ => True) w W) => light_any vo ops 100 (· < w.heap.size) W (ho.keep (h.mono fun _ _ _ => trivial)) (by decide)
  have ho' := ho
  obtain ⟨A, ca, rfl, hca, hma, -⟩ := ho'
  have HO := Lib.hid ho
  unfold maxLen at hma
  clear ho
  cases hl : light 100 ops
  · rw [hl] at hlg
    clear hl
    go_enter Try.func10, Try.ntmps10
    go_wp2_with (first
      | (go_at_call 37; refine (diskbegun_any _).mono ?_; rintro e w1 ⟨rfl, hs1⟩)
      | (go_at_call 42; refine (hlg _ hs1).mono ?_; rintro e w' ⟨rfl, rfl⟩))
    go_ret
    exact ⟨rfl, hs1⟩
  · rw [hl] at hlg
    obtain ⟨ho100, hoe⟩ := light_out hl
    have HOE := Lib.hid hoe
    clear hl hoe
    go_enter Try.func10, Try.ntmps10
    go_wp2_with (first
      | (go_at_call 37; refine (diskbegun_any _).mono ?_; rintro e w1 ⟨rfl, hs1⟩)
      | (go_at_call 42; refine (hlg _ hs1).mono ?_; rintro e w' ⟨rfl, rfl⟩)
      | (go_at_call 38; refine (dnew_any _).mono ?_; rintro e w2 ⟨g, r, rfl, hg, hr, hd1, hs2⟩)
      | (go_at_call 46; refine (rnew_any _).mono ?_; rintro e w3 ⟨h, rfl, hh, hr1, hs3⟩))
    have hz1 := hs1.size
    have hz2 := hs2.size
    have hgl := hd1.2.1
    have hrl := hd1.2.2.1
    have hs13 := Lib.hid ((hs1.trans hs2).trans hs3)
    have HB : Hid (Both w3 g r h (fun _ => False) DiskM.new) := Lib.hid ⟨hd1.keepAll hs3, hr1, by omega, by omega, fun k hk => hk.elim⟩
    clear hd1 hs1 hs2 hs3 hr1 hlg
    go_loopw [5] (fun i wr => ∃ (k : Nat) (d : DiskM) (F : Nat → Prop), k ≤ ops.length ∧ i = .int .i64 k ∧ Hid (Small d k) ∧ Hid (Both wr g r h F d) ∧ Hid (Same (fun _ => True) w wr)) (fun i _ => ops.length - (intOf i).toNat)
    case atStart => exact ⟨0, _, _, by omega, rfl, Lib.hid Small.new, HB, hs13⟩
    case round =>
      obtain ⟨k, d, F, hk, rfl, HI, hb, hsm⟩ := hrel
      clear HB hs13
      by_cases hlt : k < ops.length
      · obtain ⟨ad, vb, vk, rfl, hadb, c0, c1, c2, c3, c4, hby, hkp, wk, wf, wn⟩ := op_at (HO.out.keep (hsm.out.mono fun _ _ _ => trivial)) hlt
        have HBY := Lib.hid hby
        have HKP := Lib.hid hkp
        obtain ⟨A1, c1', rfl, -⟩ := hby
        obtain ⟨A2, c2', rfl, -⟩ := hkp
        have hlen := HOE.out k hlt
        have hz := hsm.out.size
        have hdo := do_any g r h F (· < w.heap.size) d k ops[k] _ _ wr hb HI.out (by omega) HBY HKP (fun j hj => by refine ⟨?_, ?_, ?_, ?_⟩ <;> omega) hlen.1 wk wn
        have hsml := Lib.hid (HI.out.do_ ops[k] hlen.1 wn.2)
        have hn0 := hsml.out.n0
        have hn1 := hsml.out.n1
        clear HBY HKP HI hb
        go_wp2_with (go_at_call 47; refine hdo.mono ?_; rintro e w5 ⟨rfl, F', hb', hs'⟩)
        have HB' := Lib.hid hb'
        have hsm' := hsm.out.trans' hs' (fun k hk _ => by refine ⟨?_, ?_, ?_⟩ <;> omega)
        have Hsm' := Lib.hid hsm'
        have hsame := same_any g r h F' _ w5 HB' (by omega) (by omega)
        clear hb' hs' hsm hsm' hdo
        go_wp2_with (go_at_call 48; refine hsame.mono ?_; rintro e w6 ⟨rfl, hs6⟩)
        have hsm6 := Lib.hid (Hsm'.out.trans hs6)
        have hb6 := Lib.hid (HB'.out.keepAll hs6)
        clear hs6 HB' Hsm' hsame
        go_roundw
        case rel => exact ⟨k + 1, _, F', by omega, by go_num, hsml, hb6, hsm6⟩
        case measure => simp [intOf]; omega
      · obtain rfl : k = ops.length := by omega
        have hfit := LastInv.fit HI.out (by omega)
        have hok := LastInv.okk HI.out
        have hlv := HI.out.lives
        have hn0 := HI.out.n0
        have hn1 := HI.out.n1
        have hp := LastInv.power HI.out (.inl rfl) []
        have hp0 := hp.n0
        have hp1 := hp.n1
        have hnone : ∀ w, Ints w (fun _ => False) (.slice none 0 0) [] := fun w => ⟨none, 0, rfl, by simp, by simp [maxLen], Sl.nil _ _ _ _, by simp⟩
        have hpw := dpower_any g r F (fun _ => False) d [] _ wr hb.out.1 hok (hnone _) (fun k hk => hk.elim) ⟨by omega, by omega⟩ (by omega)
        clear hnone hp
        go_wp2_with (go_at_call 40; refine hpw.mono ?_; rintro e w5 ⟨rfl, hd5, hs5⟩)
        have hr5 := hb.out.2.1.keep hs5 ⟨Ne.symm hb.out.2.2.1, Ne.symm hb.out.2.2.2.1⟩
        have hsm5 := hsm.out.trans' hs5 (fun k hk _ => by constructor <;> omega)
        have hz5 := hsm5.size
        have hrp := rpower_any h (fun _ => False) d [] _ w5 hr5 hok ⟨none, 0, rfl, by simp, by simp [maxLen], Sl.nil _ _ _ _, by simp⟩ (fun k hk => hk.elim) ⟨by omega, by omega⟩ (by omega)
        have H5 := Lib.hid (And.intro hd5 (And.intro hr5 (And.intro hs5 hsm5)))
        clear hd5 hr5 hs5 hsm5 hpw
        go_wp2_with (go_at_call 49; refine hrp.mono ?_; rintro e w6 ⟨rfl, hr6, hs6⟩)
        have HB6 : Hid (Both w6 g r h F (d.power [])) := Lib.hid ⟨H5.out.1.keep hs6 hb.out.2.2.1 hb.out.2.2.2.1 hb.out.2.2.2.2, hr6, hb.out.2.2⟩
        have hsm6 := Lib.hid (H5.out.2.2.2.trans' hs6 (fun k hk _ => by show k ≠ h; omega))
        have hsame := same_any g r h F _ w6 HB6 (by omega) (by omega)
        clear hr6 hs6 hrp
        go_wp2_with (go_at_call 48; refine hsame.mono ?_; rintro e w7 ⟨rfl, hs7⟩)
        go_ret
        exact ⟨rfl, hsm6.out.trans hs7⟩
open Go.ChangeShapes Go.WideShapes Go.ChangeAt
set_option maxRecDepth 100000 in
theorem diskAll_law {H : Type} {enc : TypeId × Value → H} : LawWalk Try.prog 10 Try.f10 H enc := by
  intro W base args ds ps hval hA
  rw [Try.params10] at hval
  have hA : DataW.TrodAll enc Try.prog W 0 (fun _ => true) true [49] args ds ps := hA
  obtain ⟨v0, vs0, d0, ds0, p0, q0, hargs, rfl, rfl, h0, r0⟩ := trodAll_cons hA
  obtain ⟨rfl, rfl, rfl⟩ := trodAll_nil r0
  subst hargs
  obtain ⟨x0, g0⟩ := open_ops (hval 0 49 v0 rfl rfl) h0
  exact diskall_walk _ x0 W g0
end Go.Proofs.Ytlnkhkkekfjebaa
