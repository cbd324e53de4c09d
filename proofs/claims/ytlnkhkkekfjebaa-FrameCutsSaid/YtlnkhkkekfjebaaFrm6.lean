/-
  FrameCuts: for every records and every cut, what is left of their bytes is scanned up to the last record that is whole.
-/
import Derived.Test.YtlnkhkkekfjebaaFrm2
import Derived.Test.YtlnkhkkekfjebaaFrmC
import Derived.Test.YtlnkhkkekfjebaaSumA
set_option linter.unusedSimpArgs false
set_option linter.unusedVariables false
namespace Go.Proofs.Ytlnkhkkekfjebaa
open Go.RowKit

theorem TI : SlT Try.prog 34 3 1 8 (.int .i64 0) := ⟨by kernel_rfl, by kernel_rfl, rfl, by omega⟩
theorem recsF_len : ∀ l : List (List UInt8), (recsF l).length = 8 * l.length + l.flatten.length
  | [] => rfl
  | r :: l => by
    have h := recsF_len l
    have e : recsF (r :: l) = recF r ++ recsF l := rfl
    rw [e, List.length_append, recF_len, h, List.length_cons, List.flatten_cons, List.length_append]
    omega
theorem recsF_take_le (l : List (List UInt8)) (k : Nat) : (recsF (l.take k)).length ≤ (recsF l).length := by
  rw [recsF_split l k, List.length_append]; omega
/-- Where the records end. -/
def endsF (l : List (List UInt8)) (k : Nat) : List Value := (List.range k).map fun j => Value.int .i64 ((recsF (l.take (j + 1))).length : Nat)
theorem endsF_succ (l : List (List UInt8)) (k : Nat) : endsF l (k + 1) = endsF l k ++ [Value.int .i64 ((recsF (l.take (k + 1))).length : Nat)] := by simp [endsF, List.range_succ]
theorem endsF_at (l : List (List UInt8)) (k j : Nat) (h : j < k) : (endsF l k)[j]? = some (Value.int .i64 ((recsF (l.take (j + 1))).length : Nat)) := by simp [endsF, h]
theorem endsF_len (l : List (List UInt8)) (k : Nat) : (endsF l k).length = k := by simp [endsF]
set_option maxRecDepth 100000 in
set_option maxHeartbeats 4000000 in
theorem framecuts_walk (v : Value) (x : Int) (l : List (List UInt8)) (w : World) (hv : ByL w (· < w.heap.size) v l) (hx : -9223372036854775808 ≤ x ∧ x ≤ 9223372036854775807) :
    Calls Try.prog 14 #[v, .int .i64 x] w (TrueP w) := by
  obtain ⟨A, ca, vs, rfl, hca, hma, -, -⟩ := id hv
  have HV := Lib.hid hv
  have hsum := fun W (h : Same (fun _ => True) w W) => sum_any _ l 8192 _ W (hv.keep (h.mono fun _ _ _ => trivial)) (by omega) (by omega)
  unfold maxLen at hma
  clear hv
  by_cases hlong : 30 < l.length
  · go_enter Try.func14, Try.ntmps14
    go_wp2_with (go_at_call 52; refine (frmbegun_any _).mono ?_; rintro e w1 ⟨rfl, hs1⟩)
    go_ret
    exact ⟨rfl, hs1⟩
  have hl30 : l.length ≤ 30 := by omega
  clear hlong
  by_cases h2 : 8192 < sumF 8192 l
  · have H2 := Lib.hid hsum
    clear hsum
    go_enter Try.func14, Try.ntmps14
    go_wp2_with (first
      | (go_at_call 52; refine (frmbegun_any _).mono ?_; rintro e w1 ⟨rfl, hs1⟩)
      | (go_at_call 27; refine (H2.out _ hs1).mono ?_; rintro e w' ⟨rfl, rfl⟩))
    go_ret
    exact ⟨rfl, hs1⟩
  have h3 := sumFrom_small (most := 8192) (by omega) l 0 (by omega) (by unfold sumF at h2; omega)
  have hsI : sumF 8192 l ≤ 8192 := by omega
  have hrl : ∀ r ∈ l, r.length ≤ 8192 := fun b hb => by have := h3.2 b hb; omega
  have hall : (recsF l).length ≤ 8432 := by rw [recsF_len]; have := h3.1; omega
  have HRL := Lib.hid hrl
  have H2 := Lib.hid hsum
  clear hsum h2 h3 hrl
  go_enter Try.func14, Try.ntmps14
  go_wp2_with (first
    | (go_at_call 52; refine (frmbegun_any _).mono ?_; rintro e w1 ⟨rfl, hs1⟩)
    | (go_at_call 27; refine (H2.out _ hs1).mono ?_; rintro e w' ⟨rfl, rfl⟩))
  have Hs1 := Lib.hid hs1
  have hz1 := hs1.size
  have hb0 : Hid (By w1 (fun _ => True) (.slice none 0 0) (recsF (l.take 0))) := Lib.hid (by simpa [recsF] using By.none_ w1 (fun _ => True) none 0 (by simp [maxLen]))
  have he0 : Hid (w1.ownsRow w1.heap.size 3 1 (.slice none 0 0) 0 (endsF l 0)) := Lib.hid (World.ownsRow_nil _ _ _ _)
  clear hs1 H2
  go_loopw [5, 6, 7] (fun b e i wr => ∃ k : Nat, k ≤ l.length ∧ i = .int .i64 k ∧ Hid (By wr (fun _ => True) b (recsF (l.take k))) ∧ Hid (wr.ownsRow w1.heap.size 3 1 e k (endsF l k)) ∧ Hid (Same (fun _ => True) w1 wr)) (fun _ _ i _ => l.length - (intOf i).toNat)
  case atStart => exact ⟨0, by omega, rfl, hb0, he0, Lib.hid (Same.refl _ _)⟩
  case round =>
    obtain ⟨k, hk, rfl, hb, he, hsm⟩ := hrel
    clear hb0 he0
    have hwr := Hs1.out.trans hsm.out
    have hkl := recsF_take_le l k
    by_cases hlt : k < l.length
    · obtain ⟨ad, A2, c2, rfl, -, hcell, hby⟩ := (HV.out.keep (hwr.mono fun _ _ _ => trivial)).at_ hlt
      have hrk := HRL.out _ (List.getElem_mem hlt)
      have hp := fput_any _ _ _ _ _ _ _ hb.out hby (by omega) (by omega)
      rw [← recsF_take l k hlt] at hp
      obtain ⟨A3, c3, rfl, -⟩ := id hb.out
      obtain ⟨A4, c4, rfl, -, -⟩ := own_cap he.out
      have hkl1 := recsF_take_le l (k + 1)
      clear hby
      go_wp2_with (first
        | (go_at_call 54; refine hp.mono ?_; rintro e w5 ⟨x5, rfl, hx5, hs5⟩; obtain ⟨A5, c5, rfl, -, -⟩ := hx5.form)
        | (at_builtin; refine stopAt ?_))
      unfold Hid
      have hs6 : Same (fun _ => True) w5 (w5.alloc (.cells #[.int .i64 ((recsF (l.take (k + 1))).length : Nat)] 3)) := (Same.refl _ _).alloc _
      have hs56 := hs5.trans hs6
      refine wpList_app TI _ rfl (.tmp 43) (.tmp 46) rfl w1.heap.size _ k (endsF l k) rfl (own_keepAll he.out hs56) (fun _ => True) (some ⟨w5.heap.size, 0, none⟩) 1 1 [.int .i64 ((recsF (l.take (k + 1))).length : Nat)] rfl (sl_one _ _ _ _ trivial) (by simp [Value.oneCell']) (by simp only [maxLen]; omega) (by omega) (by have := hs56.size; have := hsm.out.size; omega) ?_
      intro v7 w7 hown7 hs7 _
      have hx7 : Hid (By w7 (fun _ => True) (.slice A5 (recsF (l.take (k + 1))).length c5) (recsF (l.take (k + 1)))) := Lib.hid (((hx5.by_.keepAll hs6).keep (hs7.mono fun j _ hj e => by
        have h1 := (he.out.lt j e.symm).2
        have hj : wr.heap.size ≤ j := hj
        omega)).mono fun _ _ _ => trivial)
      have he7 : Hid (w7.ownsRow w1.heap.size 3 1 v7 (k + 1) (endsF l (k + 1))) := Lib.hid (by rw [endsF_succ]; exact hown7)
      have hs17 : Hid (Same (fun _ => True) w1 w7) := Lib.hid ((hsm.out.trans hs56).trans' hs7 fun j hj _ e => by have := (he.out.lt j e.symm).1; omega)
      clear hx5 hown7 hs7 hs56 hs6 hs5 hp hb he hsm hwr
      go_wp2
      go_roundw
      case rel => exact ⟨k + 1, by omega, by go_num, hx7, he7, hs17⟩
      case measure => simp [intOf]; omega
    · obtain rfl : k = l.length := by omega
      rw [List.take_length] at hb
      obtain ⟨wq, rfl⟩ : ∃ wq : World, wq = wr := ⟨_, rfl⟩
      obtain ⟨L, hL⟩ : ∃ L, L = (recsF l).length := ⟨_, rfl⟩
      have HL := Lib.hid hL
      obtain ⟨A3, c3, rfl, hc3, hm3, -⟩ := id hb.out
      rw [← hL] at hc3 hb hall
      obtain ⟨A4, c4, rfl, hc4, hm4⟩ := own_cap he.out
      have hp := placeF_bd x (L + 1)
      obtain ⟨cut, hcut⟩ : ∃ c : Nat, placeF x ((L : Int) + 1) = c := ⟨(placeF x (L + 1)).toNat, by omega⟩
      have hcl : cut ≤ L := by have := hp.2 (by omega); omega
      have hpl := fun w => place_any x ((L : Int) + 1) w hx (by omega)
      rw [hcut] at hpl
      rw [← hL]
      unfold maxLen at hm3 hm4
      clear hp hcut hL hkl
      have h0 : Hid ((recsF (l.take 0)).length ≤ cut) := Lib.hid (by simp [recsF])
      have hgood0 : (.int .i64 0 : Value) = .int .i64 ((recsF (l.take 0)).length : Nat) := by simp [recsF]
      have Hg0 := Lib.hid hgood0
      clear hgood0
      go_wp2_with (go_at_call 36; refine (hpl _).mono ?_; rintro e w' ⟨rfl, rfl⟩)
      go_loop [10, 11] (fun n g => ∃ j : Nat, j ≤ l.length ∧ n = .int .i64 j ∧ g = .int .i64 ((recsF (l.take j)).length : Nat) ∧ Hid ((recsF (l.take j)).length ≤ cut)) (fun n _ => l.length - (intOf n).toNat)
      case atStart => exact ⟨0, by omega, rfl, Hg0.out, h0⟩
      case round =>
        obtain ⟨j, hj, rfl, rfl, hjc⟩ := hrel
        clear h0 Hg0
        have hpost : (j < l.length → cut < (recsF (l.take (j + 1))).length) → True := fun _ => trivial
        by_cases hgo : j < l.length ∧ (recsF (l.take (j + 1))).length ≤ cut
        · obtain ⟨hlt2, hle2⟩ := hgo
          obtain ⟨ad, u, rfl, -, hu, hcell⟩ := (Sl.of_own he.out).at_ hlt2
          rw [endsF_at l _ _ hlt2] at hu
          injection hu with hu
          subst hu
          have hE := Lib.hid hle2
          obtain ⟨E, hEE⟩ : ∃ E, E = (recsF (l.take (j + 1))).length := ⟨_, rfl⟩
          have HE := Lib.hid hEE
          rw [← hEE] at hcell hle2
          have hleI : (E : Int) ≤ (cut : Int) := by omega
          have hjI : (j : Int) < (l.length : Int) := by omega
          clear hEE
          go_wp2
          refine ⟨⟨j + 1, by omega, by go_num, by rw [HE.out], hE⟩, by simp [intOf]; omega⟩
        · have hsc := cut_scan l (fun r hr => by have := HRL.out r hr; omega) cut j hj (by rw [← HL.out]; exact hcl) hjc.out (fun h => by
            rcases Nat.lt_or_ge cut (recsF (l.take (j + 1))).length with h2 | h2
            · exact h2
            · exact absurd ⟨h, h2⟩ hgo)
          have HSC := Lib.hid hsc
          have HTL := Lib.hid (show (l.take j).length = j by simp; omega)
          have hby : By wq (fun _ => True) (.slice A3 cut c3) ((recsF l).take cut) := by
            obtain ⟨A', c', e, h1, h2, h3⟩ := hb.out
            injection e with e1 e2 e3
            subst e1 e3
            have ht := h3.take (k := cut) (by rw [← HL.out]; exact hcl)
            have hl2 : ((recsF l).take cut).length = cut := by rw [List.length_take, ← HL.out]; omega
            refine ⟨A3, c3, by rw [hl2], by rw [hl2]; omega, by simp only [maxLen]; omega, ?_⟩
            rw [hl2]
            rwa [Nat.mul_one, show (cs8 (recsF l)).take cut = cs8 ((recsF l).take cut) by simp [cs8, List.map_take]] at ht
          have hscan := fscan_any _ _ _ wq hby (by rw [List.length_take, ← HL.out]; omega)
          have hcutI : (cut : Int) ≤ (L : Int) := by omega
          have hcc : cut ≤ c3 := by omega
          clear hsc hby
          by_cases hlt2 : j < l.length
          · have hgt : cut < (recsF (l.take (j + 1))).length := by
              rcases Nat.lt_or_ge cut (recsF (l.take (j + 1))).length with h2 | h2
              · exact h2
              · exact absurd ⟨hlt2, h2⟩ hgo
            obtain ⟨ad, u, rfl, -, hu, hcell⟩ := (Sl.of_own he.out).at_ hlt2
            rw [endsF_at l _ _ hlt2] at hu
            injection hu with hu
            subst hu
            obtain ⟨E, hEE⟩ : ∃ E, E = (recsF (l.take (j + 1))).length := ⟨_, rfl⟩
            rw [← hEE] at hcell hgt
            have hgtI : (cut : Int) < (E : Int) := by omega
            have hjI : (j : Int) < (l.length : Int) := by omega
            clear hEE hgo
            go_wp2_with (go_at_call 60; refine hscan.mono ?_; rintro e9 w9 ⟨u9, l9, a9, rfl, hsf, hl9, hs9⟩; obtain ⟨rfl, rfl⟩ := ScanF.uniq hsf HSC.out; obtain ⟨A9, c9, rfl, hc9, hm9⟩ := hl9.form; rw [HTL.out] at hc9 ⊢)
            have HL9 := Lib.hid (hl9.list.mono (S' := fun _ => True) fun _ _ _ => trivial)
            have hs19 := Lib.hid ((Hs1.out.trans hsm.out).trans hs9)
            unfold maxLen at hm9
            clear hl9 hs9 hsf hscan
            go_loopw [14] (fun i wy => ∃ k : Nat, k ≤ j ∧ i = .int .i64 k ∧ Hid (Same (fun _ => True) w9 wy)) (fun i _ => j - (intOf i).toNat)
            case atStart => exact ⟨0, by omega, rfl, Lib.hid (Same.refl _ _)⟩
            case round =>
              obtain ⟨k, hk, rfl, hq⟩ := hrel
              obtain ⟨wz, rfl⟩ : ∃ wz : World, wz = wr := ⟨_, rfl⟩
              by_cases hlt3 : k < j
              · have hkl : k < l.length := by omega
                have hkt : k < (l.take j).length := by rw [HTL.out]; exact hlt3
                obtain ⟨ad1, B1, d1, rfl, -, hc1, hb1⟩ := (HL9.out.keepAll hq.out).at_ hkt
                obtain ⟨ad2, B2, d2, rfl, -, hc2, hb2⟩ := (HV.out.keep ((hs19.out.trans hq.out).mono fun _ _ _ => trivial)).at_ hkl
                have hel : (l.take j)[k] = l[k] := by simp
                rw [hel] at hc1 hb1
                have hkI : (k : Int) < (j : Int) := by omega
                have hkI2 : (k : Int) < (l.length : Int) := by omega
                have v1 : ∀ n, (convert 27 9 (.slice B1 l[k].length d1)).run Try.prog (wz.drewN n) = .ok (.string (str l[k])) (wz.drewN n) := fun n => conv_by (hb1.keepAll ((Same.refl _ _).drewN n))
                have v2 : ∀ n, (convert 27 9 (.slice B2 l[k].length d2)).run Try.prog (wz.drewN n) = .ok (.string (str l[k])) (wz.drewN n) := fun n => conv_by (hb2.keepAll ((Same.refl _ _).drewN n))
                have Hk := Lib.hid hlt3
                clear hb1 hb2 hel
                generalize l[k] = r at *
                go_wp2
                go_quiet (fail)
                have hq2 := Lib.hid (hq.out.drewN nq)
                generalize wz.drewN nq = wt at *
                clear v1 v2 hc1 hc2
                go_wp2
                go_roundw
                case rel => exact ⟨k + 1, Hk.out, by go_num, hq2⟩
                case measure => have := Hk.out; simp [intOf]; omega
              · obtain rfl : k = j := by omega
                go_wp2
                go_ret
                exact ⟨rfl, hs19.out.trans hq.out⟩
          · have hjI : (l.length : Int) ≤ (j : Int) := by omega
            clear hgo
            go_wp2_with (go_at_call 60; refine hscan.mono ?_; rintro e9 w9 ⟨u9, l9, a9, rfl, hsf, hl9, hs9⟩; obtain ⟨rfl, rfl⟩ := ScanF.uniq hsf HSC.out; obtain ⟨A9, c9, rfl, hc9, hm9⟩ := hl9.form; rw [HTL.out] at hc9 ⊢)
            have HL9 := Lib.hid (hl9.list.mono (S' := fun _ => True) fun _ _ _ => trivial)
            have hs19 := Lib.hid ((Hs1.out.trans hsm.out).trans hs9)
            unfold maxLen at hm9
            clear hl9 hs9 hsf hscan
            go_loopw [14] (fun i wy => ∃ k : Nat, k ≤ j ∧ i = .int .i64 k ∧ Hid (Same (fun _ => True) w9 wy)) (fun i _ => j - (intOf i).toNat)
            case atStart => exact ⟨0, by omega, rfl, Lib.hid (Same.refl _ _)⟩
            case round =>
              obtain ⟨k, hk, rfl, hq⟩ := hrel
              obtain ⟨wz, rfl⟩ : ∃ wz : World, wz = wr := ⟨_, rfl⟩
              by_cases hlt3 : k < j
              · have hkl : k < l.length := by omega
                have hkt : k < (l.take j).length := by rw [HTL.out]; exact hlt3
                obtain ⟨ad1, B1, d1, rfl, -, hc1, hb1⟩ := (HL9.out.keepAll hq.out).at_ hkt
                obtain ⟨ad2, B2, d2, rfl, -, hc2, hb2⟩ := (HV.out.keep ((hs19.out.trans hq.out).mono fun _ _ _ => trivial)).at_ hkl
                have hel : (l.take j)[k] = l[k] := by simp
                rw [hel] at hc1 hb1
                have hkI : (k : Int) < (j : Int) := by omega
                have hkI2 : (k : Int) < (l.length : Int) := by omega
                have v1 : ∀ n, (convert 27 9 (.slice B1 l[k].length d1)).run Try.prog (wz.drewN n) = .ok (.string (str l[k])) (wz.drewN n) := fun n => conv_by (hb1.keepAll ((Same.refl _ _).drewN n))
                have v2 : ∀ n, (convert 27 9 (.slice B2 l[k].length d2)).run Try.prog (wz.drewN n) = .ok (.string (str l[k])) (wz.drewN n) := fun n => conv_by (hb2.keepAll ((Same.refl _ _).drewN n))
                have Hk := Lib.hid hlt3
                clear hb1 hb2 hel
                generalize l[k] = r at *
                go_wp2
                go_quiet (fail)
                have hq2 := Lib.hid (hq.out.drewN nq)
                generalize wz.drewN nq = wt at *
                clear v1 v2 hc1 hc2
                go_wp2
                go_roundw
                case rel => exact ⟨k + 1, Hk.out, by go_num, hq2⟩
                case measure => have := Hk.out; simp [intOf]; omega
              · obtain rfl : k = j := by omega
                go_wp2
                go_ret
                exact ⟨rfl, hs19.out.trans hq.out⟩
open Go.ChangeShapes Go.WideShapes Go.ChangeAt
set_option maxRecDepth 100000 in
theorem frameCuts_law {H : Type} {enc : TypeId × Value → H} : LawWalk Try.prog 14 Try.f14 H enc := by
  intro W base args ds ps hval hA
  rw [Try.params14] at hval
  have hA : DataW.TrodAll enc Try.prog W 0 (fun _ => true) true [22, 3] args ds ps := hA
  obtain ⟨v0, vs0, d0, ds0, p0, q0, hargs, rfl, rfl, h0, r0⟩ := trodAll_cons hA
  obtain ⟨v1, vs1, d1, ds1, p1, q1, rfl, rfl, rfl, h1, r1⟩ := trodAll_cons r0
  obtain ⟨rfl, rfl, rfl⟩ := trodAll_nil r1
  subst hargs
  obtain ⟨x0, g0⟩ := open_bytesl (hval 0 22 v0 rfl rfl) h0
  obtain ⟨x1, rfl, rfl, rfl, g1⟩ := open_int Try.underlying3 (hval 1 3 v1 rfl rfl) h1
  exact framecuts_walk _ _ x0 W g0 (i64_of_wf g1)
end Go.Proofs.Ytlnkhkkekfjebaa
