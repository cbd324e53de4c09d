/-
  FrameAgain: for every bytes, what is scanned of them, written anew, is their good beginning, and behind it no record stands.
-/
import Derived.Test.YtlnkhkkekfjebaaFrmB
import Derived.Test.YtlnkhkkekfjebaaFrmO
import Derived.BigQuiet
set_option linter.unusedSimpArgs false
set_option linter.unusedVariables false
namespace Go.Proofs.Ytlnkhkkekfjebaa
open Go.RowKit

theorem ByL.at_ {w : World} {S : Nat → Prop} {A : Option Addr} {n c k : Nat} {l : List (List UInt8)} (h : ByL w S (.slice A n c) l) (hk : k < l.length) :
    ∃ ad A2 c2, A = some ad ∧ n = l.length ∧ w.cell? (ad.add k) = some (.slice A2 l[k].length c2) ∧ By w S (.slice A2 l[k].length c2) l[k] := by
  obtain ⟨A', c', vs, e, h1, h2, h3, h4⟩ := h
  injection e with e1 e2 e3
  subst e1
  obtain ⟨ad, u, rfl, -, hu, hc⟩ := h3.at_ hk
  have hb := h4 k u l[k] hu (List.getElem?_eq_getElem hk)
  obtain ⟨A2, c2, rfl, -⟩ := id hb
  exact ⟨ad, A2, c2, rfl, e2, hc, hb⟩
set_option maxRecDepth 100000 in
set_option maxHeartbeats 2000000 in
theorem frameagain_walk (vb : Value) (b : List UInt8) (w : World) (hb : By w (· < w.heap.size) vb b) :
    Calls Try.prog 16 #[vb] w (TrueP w) := by
  obtain ⟨A, ca, rfl, hca, hma, -⟩ := id hb
  have HB := Lib.hid hb
  unfold maxLen at hma
  clear hb
  by_cases hlong : 8192 < b.length
  · go_enter Try.func16, Try.ntmps16
    go_wp2_with (go_at_call 52; refine (frmbegun_any _).mono ?_; rintro e w1 ⟨rfl, hs1⟩)
    go_ret
    exact ⟨rfl, hs1⟩
  · have hbl : b.length ≤ 8192 := by omega
    clear hlong
    go_enter Try.func16, Try.ntmps16
    go_wp2_with (first
      | (go_at_call 52; refine (frmbegun_any _).mono ?_; rintro e w1 ⟨rfl, hs1⟩; have hsc := fscan_any _ b _ w1 (HB.out.keep (hs1.mono fun _ _ _ => trivial)) (by omega))
      | (go_at_call 60; refine hsc.mono ?_; rintro e w2 ⟨vl, l, a, rfl, hsf, hl, hs2⟩; obtain ⟨A2, c2, rfl, -, hm2⟩ := hl.form))
    have hs12 := Lib.hid (hs1.trans hs2)
    have HL := Lib.hid (hl.list.mono (S' := fun _ => True) fun _ _ _ => trivial)
    have HF := Lib.hid hsf
    have hle := hsf.1.le
    have hsm := Lib.hid hsf.1.small
    have hbytes := Lib.hid hsf.1.bytes
    unfold maxLen at hm2
    have hnilB : ∀ w, Hid (By w (fun _ => True) (.slice none 0 0) (recsF (l.take 0))) := fun w => Lib.hid (by simpa [recsF] using By.none_ w (fun _ => True) none 0 (by simp [maxLen]))
    have h0 := hnilB w2
    clear hs1 hs2 hl hsc hsf hnilB
    go_loopw [5, 6] (fun v i wr => ∃ k : Nat, k ≤ l.length ∧ i = .int .i64 k ∧ Hid (By wr (fun _ => True) v (recsF (l.take k))) ∧ Hid (Same (fun _ => True) w2 wr)) (fun _ i _ => l.length - (intOf i).toNat)
    case atStart => exact ⟨0, by omega, rfl, h0, Lib.hid (Same.refl _ _)⟩
    case round =>
      obtain ⟨k, hk, rfl, hv, hsm2⟩ := hrel
      clear h0
      have hlen : (recsF (l.take k)).length ≤ 8192 := by
        have h1 := recsF_split l k
        have h2 := congrArg List.length h1
        rw [List.length_append, hbytes.out, List.length_take] at h2
        omega
      by_cases hlt : k < l.length
      · obtain ⟨ad, A5, c5, rfl, -, hcell, hby⟩ := (HL.out.keepAll hsm2.out).at_ hlt
        have hrl : l[k].length ≤ 8192 := by have := hsm.out l[k] (List.getElem_mem hlt); omega
        have hp := fput_any _ _ (recsF (l.take k)) l[k] _ _ _ hv.out hby (by omega) (by omega)
        obtain ⟨A6, c6, rfl, -⟩ := id hv.out
        have hnext := recsF_take l k hlt
        rw [← hnext] at hp
        clear hby hnext hv
        go_wp2_with (go_at_call 54; refine hp.mono ?_; rintro e w5 ⟨x, rfl, hx, hs5⟩)
        have hx' := Lib.hid (hx.by_.mono (S' := fun _ => True) fun _ _ _ => trivial)
        have hs25 := Lib.hid (hsm2.out.trans hs5)
        clear hx hs5 hsm2 hp
        go_roundw
        case rel => exact ⟨k + 1, by omega, by go_num, hx', hs25⟩
        case measure => simp [intOf]; omega
      · obtain rfl : k = l.length := by omega
        rw [List.take_length] at hv hlen
        have hs15 := hs12.out.trans hsm2.out
        have hnx := fnext_any _ b a _ _ (HB.out.keep (hs15.mono fun _ _ _ => trivial)) (by omega)
        obtain ⟨r, m, e, hx⟩ : ∃ r m e, nextF b a = (r, m, e) := ⟨_, _, _, rfl⟩
        have he : (e != 0) = true := by
          have := HF.out.2
          rw [hx] at this
          simpa using this
        rw [hx] at hnx
        obtain ⟨A6, c6, rfl, hc6, hm6, -⟩ := id hv.out
        have HV := Lib.hid hv.out
        have Hs := Lib.hid hs15
        clear hx hv hs15
        go_wp2_with (go_at_call 58; refine hnx.mono ?_; rintro e' w6 ⟨u6, rfl, hu6, hs6⟩)
        have hs16 := Hs.out.trans hs6
        have v1 : ∀ k, (convert 27 9 (.slice A6 (recsF l).length c6)).run Try.prog (w6.drewN k) = .ok (.string (str (b.take a))) (w6.drewN k) := fun k => by
          have := conv_by ((HV.out.keepAll hs6).keepAll ((Same.refl _ _).drewN k))
          rwa [hbytes.out] at this ⊢
        have v2 : ∀ k, (convert 27 9 (.slice A a ca)).run Try.prog (w6.drewN k) = .ok (.string (str (b.take a))) (w6.drewN k) := fun k => by
          have hby := (HB.out.keep (hs16.mono (S' := (· < w.heap.size)) fun _ _ _ => trivial)).keep ((Same.refl _ _).drewN k)
          obtain ⟨A', c', e, h1, h2, h3⟩ := hby
          injection e with e1 e2 e3
          subst e1 e3
          have ht := h3.take (k := a) hle.1
          have hl2 : (b.take a).length = a := by simp; omega
          refine conv_by (S := (· < w.heap.size)) ⟨A, ca, by rw [hl2], by rw [hl2]; omega, by simp only [maxLen]; omega, ?_⟩
          rw [hl2]
          rwa [Nat.mul_one, show (cs8 b).take a = cs8 (b.take a) by simp [cs8, List.map_take]] at ht
        have Hs16 := Lib.hid hs16
        have hal := hle.1
        have haI : (a : Int) ≤ (b.length : Int) := by omega
        have hac : a ≤ ca := by omega
        clear hs16 hs6 hu6 hnx
        go_wp2
        go_quiet (fail)
        go_wp2
        go_ret
        exact ⟨rfl, Hs16.out.drewN _⟩
open Go.ChangeShapes Go.WideShapes Go.ChangeAt
set_option maxRecDepth 100000 in
theorem frameAgain_law {H : Type} {enc : TypeId × Value → H} : LawWalk Try.prog 16 Try.f16 H enc := by
  intro W base args ds ps hval hA
  rw [Try.params16] at hval
  have hA : DataW.TrodAll enc Try.prog W 0 (fun _ => true) true [27] args ds ps := hA
  obtain ⟨v0, vs0, d0, ds0, p0, q0, hargs, rfl, rfl, h0, r0⟩ := trodAll_cons hA
  obtain ⟨rfl, rfl, rfl⟩ := trodAll_nil r0
  subst hargs
  obtain ⟨x0, g0⟩ := open_bytes (hval 0 27 v0 rfl rfl) h0
  exact frameagain_walk _ x0 W g0
end Go.Proofs.Ytlnkhkkekfjebaa
