/-
  DiskTails: for every two files' bytes and every keep, the power leaves of each file the beginning that keep allows.
-/
import Derived.Test.YtlnkhkkekfjebaaDiskB
import Derived.BigQuiet
set_option linter.unusedSimpArgs false
set_option linter.unusedVariables false
namespace Go.Proofs.Ytlnkhkkekfjebaa
open Go.RowKit Go.ChangeMaps Go.MapKept

def tailN (keep : List Int) (i : Nat) (a : List UInt8) : Nat := keepN keep i ⟨a, 0⟩
theorem tail_d1 (a : List UInt8) : (DiskM.new.append 0 a) = (0, ⟨⟨a, 0⟩, ⟨[], 0⟩, -1, false, 0, 1⟩) := by
  simp [DiskM.append, DiskM.may, DiskM.new, DiskM.step, DiskM.file, DiskM.put]
theorem tail_d2 (a b : List UInt8) : (DiskM.append ⟨⟨a, 0⟩, ⟨[], 0⟩, -1, false, 0, 1⟩ 1 b) = (0, ⟨⟨a, 0⟩, ⟨b, 0⟩, -1, false, 0, 2⟩) := by
  simp [DiskM.append, DiskM.may, DiskM.step, DiskM.file, DiskM.put]
theorem tail_d3 (a b : List UInt8) (keep : List Int) : (DiskM.power ⟨⟨a, 0⟩, ⟨b, 0⟩, -1, false, 0, 2⟩ keep) = ⟨⟨a.take (tailN keep 0 a), tailN keep 0 a⟩, ⟨b.take (tailN keep 1 b), tailN keep 1 b⟩, -1, false, 1, 2⟩ := by
  simp [DiskM.power, FileM.cut, tailN]
theorem tail_r0 (x y : FileM) (l s : Nat) : (DiskM.read ⟨x, y, -1, false, l, s⟩ 0) = (x.b, 0) := by simp [DiskM.read, DiskM.may, DiskM.file]
theorem tail_r1 (x y : FileM) (l s : Nat) : (DiskM.read ⟨x, y, -1, false, l, s⟩ 1) = (y.b, 0) := by simp [DiskM.read, DiskM.may, DiskM.file]
theorem tailN_le (keep : List Int) (i : Nat) (a : List UInt8) : tailN keep i a ≤ a.length := by
  unfold tailN keepN; split <;> simp; omega
theorem tailN_no {keep : List Int} {i : Nat} (a : List UInt8) (h : ¬ i < keep.length) : tailN keep i a = 0 := by
  unfold tailN keepN; rw [if_neg h]
theorem tailN_min {keep : List Int} {i : Nat} (a : List UInt8) (h : i < keep.length) : min (max keep[i] 0) (a.length : Int) = (tailN keep i a : Int) := by
  unfold tailN keepN
  rw [if_pos h, show keep.getD i 0 = keep[i] by simp [h]]
  simp only [Nat.sub_zero]
  omega

set_option maxRecDepth 100000 in
theorem disktails_walk (va vb vk : Value) (a b : List UInt8) (keep : List Int) (w : World) (ha : By w (· < w.heap.size) va a) (hb : By w (· < w.heap.size) vb b) (hk : Ints w (· < w.heap.size) vk keep) :
    Calls Try.prog 8 #[va, vb, vk] w (TrueP w) := by
  have ha' := ha
  have hb' := hb
  have hk' := hk
  obtain ⟨A, ca, rfl, hca, hma, hsa⟩ := ha'
  obtain ⟨B, cb, rfl, hcb, hmb, hsb⟩ := hb'
  obtain ⟨K, ck, rfl, hck, hmk, hsk, hbk⟩ := hk'
  have HA := Lib.hid ha
  have HB := Lib.hid hb
  have HK := Lib.hid hk
  have HS := Lib.hid (And.intro hsa (And.intro hsb hsk))
  unfold maxLen at hma hmb hmk
  clear ha hb hk hsa hsb hsk hbk
  by_cases hlong : 1000 < a.length ∨ 1000 < b.length ∨ 10 < keep.length
  · go_enter Try.func8, Try.ntmps8
    rcases hlong with h | h | h
    · go_wp2_with (go_at_call 37; refine (diskbegun_any _).mono ?_; rintro e w1 ⟨rfl, hs1⟩)
      go_ret
      exact ⟨rfl, hs1⟩
    · go_wp2_with (go_at_call 37; refine (diskbegun_any _).mono ?_; rintro e w1 ⟨rfl, hs1⟩)
      all_goals go_ret
      all_goals exact ⟨rfl, hs1⟩
    · go_wp2_with (go_at_call 37; refine (diskbegun_any _).mono ?_; rintro e w1 ⟨rfl, hs1⟩)
      all_goals go_ret
      all_goals exact ⟨rfl, hs1⟩
  · have h1 : a.length ≤ 1000 := by omega
    have h2 : b.length ≤ 1000 := by omega
    have h3 : keep.length ≤ 10 := by omega
    clear hlong
    go_enter Try.func8, Try.ntmps8
    go_wp2_with (first | (go_at_call 37; refine (diskbegun_any _).mono ?_; rintro e w1 ⟨rfl, hs1⟩) | (go_at_call 38; refine (dnew_any _).mono ?_; rintro e w2 ⟨g, r, rfl, hg, hr, hd1, hs2⟩) | (go_at_call 39; refine stopAt ?_))
    unfold Hid
    have hs12 := hs1.trans hs2
    have hz1 := hs1.size
    refine (dappend_any g r _ _ DiskM.new 0 _ a _ hd1 ⟨by decide, by decide⟩ (HA.out.keepAll hs12) (by simp [DiskM.new, DiskM.file]; omega)).mono ?_
    rw [tail_d1]
    rintro e w3 ⟨rfl, ⟨F3, hF3, hd3⟩, hs3⟩
    have hd3 : DiskAt w3 g r F3 ⟨⟨a, 0⟩, ⟨[], 0⟩, -1, false, 0, 1⟩ := hd3
    have hs13 := hs12.trans' hs3 (fun k hk _ => by constructor <;> omega)
    go_wp2_with (go_at_call 39; refine stopAt ?_)
    unfold Hid
    refine (dappend_any g r _ _ _ 1 _ b _ hd3 ⟨by simp, by simp⟩ (HB.out.keepAll hs13) (by simp [DiskM.file]; omega)).mono ?_
    rw [tail_d2]
    rintro e w4 ⟨rfl, ⟨F4, hF4, hd4⟩, hs4⟩
    have hd4 : DiskAt w4 g r F4 ⟨⟨a, 0⟩, ⟨b, 0⟩, -1, false, 0, 2⟩ := hd4
    have hs14 := hs13.trans' hs4 (fun k hk _ => by constructor <;> omega)
    have hz14 := hs14.size
    go_wp2_with (go_at_call 40; refine stopAt ?_)
    unfold Hid
    refine (dpower_any g r F4 _ _ keep _ _ hd4 ⟨by simp, by simp, by simp⟩ (HK.out.keep (hs14.mono fun _ _ _ => trivial)) (fun k hk => by constructor <;> omega) ⟨by simp; omega, by simp; omega⟩ (by simp)).mono ?_
    rw [tail_d3]
    rintro e w5 ⟨rfl, hd5, hs5⟩
    have hs15 := hs14.trans' hs5 (fun k hk _ => by constructor <;> omega)
    go_wp2_with (go_at_call 41; refine stopAt ?_)
    unfold Hid
    obtain ⟨n, hn⟩ : ∃ n, n = tailN keep 0 a := ⟨_, rfl⟩
    obtain ⟨m, hm⟩ : ∃ m, m = tailN keep 1 b := ⟨_, rfl⟩
    have hnl := tailN_le keep 0 a
    have hml := tailN_le keep 1 b
    have hn0 := fun h => tailN_no (keep := keep) (i := 0) a h
    have hm0 := fun h => tailN_no (keep := keep) (i := 1) b h
    have hn1 := fun h => tailN_min (keep := keep) (i := 0) a h
    have hm1 := fun h => tailN_min (keep := keep) (i := 1) b h
    rw [← hn] at hnl hn0 hn1 hd5
    rw [← hm] at hml hm0 hm1 hd5
    clear hn hm
    refine (dread_any g r F4 _ 0 _ hd5 (by simp [DiskM.file]; omega)).mono ?_
    rw [tail_r0]
    rintro e w6 ⟨u, rfl, hu, hs6⟩
    have hs16 := hs15.trans hs6
    go_wp2_with (go_at_call 41; refine stopAt ?_)
    unfold Hid
    refine (dread_any g r F4 _ 1 _ (hd5.keepAll hs6) (by simp [DiskM.file]; omega)).mono ?_
    rw [tail_r1]
    rintro e w7 ⟨u2, rfl, hu2, hs7⟩
    have hs17 := hs16.trans hs7
    have ly : (a.take n).length = n := by simp; omega
    have lz : (b.take m).length = m := by simp; omega
    obtain ⟨A5, c5, rfl, _, _, hsl5⟩ := (own_by hu).keepAll hs7
    obtain ⟨A6, c6, rfl, _, _, hsl6⟩ := own_by hu2
    have v1 : ∀ k, (convert 27 9 (.slice A5 n c5)).run Try.prog (w7.drewN k) = .ok (.string (str (a.take n))) (w7.drewN k) := fun k => by
      have := conv_str (P := Try.prog) (w := w7.drewN k) c5 27 9 5 Try.underlying27 Try.underlying5 Try.underlying9 (hsl5.keep ((Same.refl _ _).drewN k))
      rwa [ly] at this
    have v2 : ∀ k, (convert 27 9 (.slice A6 m c6)).run Try.prog (w7.drewN k) = .ok (.string (str (b.take m))) (w7.drewN k) := fun k => by
      have := conv_str (P := Try.prog) (w := w7.drewN k) c6 27 9 5 Try.underlying27 Try.underlying5 Try.underlying9 (hsl6.keep ((Same.refl _ _).drewN k))
      rwa [lz] at this
    have hsA := (HS.out.1.keep (hs17.mono fun _ _ _ => trivial)).take (k := n) (by omega)
    have hsB := (HS.out.2.1.keep (hs17.mono fun _ _ _ => trivial)).take (k := m) (by omega)
    have v3 : ∀ k, (convert 27 9 (.slice A n ca)).run Try.prog (w7.drewN k) = .ok (.string (str (a.take n))) (w7.drewN k) := fun k => by
      have := conv_str (P := Try.prog) (w := w7.drewN k) (bs := a.take n) (A := A) (S := (· < w.heap.size)) ca 27 9 5 Try.underlying27 Try.underlying5 Try.underlying9 (by
        rw [ly]
        have h := hsA.keep ((Same.refl _ _).drewN k)
        rwa [Nat.mul_one, show (cs8 a).take n = cs8 (a.take n) by simp [cs8, List.map_take]] at h)
      rwa [ly] at this
    have v4 : ∀ k, (convert 27 9 (.slice B m cb)).run Try.prog (w7.drewN k) = .ok (.string (str (b.take m))) (w7.drewN k) := fun k => by
      have := conv_str (P := Try.prog) (w := w7.drewN k) (bs := b.take m) (A := B) (S := (· < w.heap.size)) cb 27 9 5 Try.underlying27 Try.underlying5 Try.underlying9 (by
        rw [lz]
        have h := hsB.keep ((Same.refl _ _).drewN k)
        rwa [Nat.mul_one, show (cs8 b).take m = cs8 (b.take m) by simp [cs8, List.map_take]] at h)
      rwa [lz] at this
    rw [ly, lz]
    have hcK : ∀ i (h : i < keep.length), ∃ ad, K = some ad ∧ w7.cell? (ad.add i) = some (.int .i64 keep[i]) := fun i h => by
      obtain ⟨ad, u, hA, hSb, hu, hcell⟩ := HS.out.2.2.at_ h
      obtain rfl : u = .int .i64 keep[i] := by simpa [h] using hu.symm
      exact ⟨ad, hA, hs17.cell trivial hcell⟩
    have Hs17 := Lib.hid hs17
    clear hs17 hs16 hs15 hs14 hs13 hs12 hs1 hs2 hs3 hs4 hs5 hs6 hs7 hd1 hd3 hd4 hd5 hF3 hF4 hsl5 hsl6 hsA hsB hu hu2 HS HA HB HK
    by_cases k1 : 1 < keep.length
    · obtain ⟨ad, rfl, q0⟩ := hcK 0 (by omega)
      obtain ⟨ad', e, q1⟩ := hcK 1 k1
      injection e with e
      subst e
      have hn1 := hn1 (by omega)
      have hm1 := hm1 k1
      have i1 : (1 : Int) < (keep.length : Int) := by omega
      have i0 : (0 : Int) < (keep.length : Int) := by omega
      clear hcK hn0 hm0
      rw [show ad.add 0 = ad from by unfold Addr.add; split <;> simp_all] at q0
      rw [show ad.add 1 = ⟨ad.block, ad.off + 1, none⟩ from rfl] at q1
      go_wp2
      go_quiet (fail)
      go_wp2
      go_ret
      exact ⟨rfl, Hs17.out.drewN _⟩
    · have hm0 := hm0 k1
      subst hm0
      by_cases k0 : 0 < keep.length
      · obtain ⟨ad, rfl, q0⟩ := hcK 0 k0
        have hn1 := hn1 k0
        have i0 : (0 : Int) < (keep.length : Int) := by omega
        have i1 : (keep.length : Int) ≤ 1 := by omega
        clear hcK hn0 hm1
        rw [show ad.add 0 = ad from by unfold Addr.add; split <;> simp_all] at q0
        go_wp2
        go_quiet (fail)
        go_wp2
        go_ret
        exact ⟨rfl, Hs17.out.drewN _⟩
      · have hn0 := hn0 k0
        subst hn0
        have i0 : (keep.length : Int) ≤ 0 := by omega
        clear hcK hn1 hm1
        go_wp2
        go_quiet (fail)
        go_wp2
        go_ret
        exact ⟨rfl, Hs17.out.drewN _⟩
open Go.ChangeShapes Go.WideShapes Go.ChangeAt
set_option maxRecDepth 100000 in
theorem diskTails_law {H : Type} {enc : TypeId × Value → H} : LawWalk Try.prog 8 Try.f8 H enc := by
  intro W base args ds ps hval hA
  rw [Try.params8] at hval
  have hA : DataW.TrodAll enc Try.prog W 0 (fun _ => true) true [27, 27, 34] args ds ps := hA
  obtain ⟨v0, vs0, d0, ds0, p0, q0, hargs, rfl, rfl, h0, r0⟩ := trodAll_cons hA
  obtain ⟨v1, vs1, d1, ds1, p1, q1, rfl, rfl, rfl, h1, r1⟩ := trodAll_cons r0
  obtain ⟨v2, vs2, d2, ds2, p2, q2, rfl, rfl, rfl, h2, r2⟩ := trodAll_cons r1
  obtain ⟨rfl, rfl, rfl⟩ := trodAll_nil r2
  subst hargs
  obtain ⟨x0, g0⟩ := open_bytes (hval 0 27 v0 rfl rfl) h0
  obtain ⟨x1, g1⟩ := open_bytes (hval 1 27 v1 rfl rfl) h1
  obtain ⟨x2, g2⟩ := open_intsl (hval 2 34 v2 rfl rfl) h2
  exact disktails_walk _ _ _ x0 x1 x2 W g0 g1 g2

end Go.Proofs.Ytlnkhkkekfjebaa
