/-
  Words, plain models, laws and walks that the claims of this layer share (joined by shake.py). No condition.
-/
import Derived.Test.YtpjinngngbifoaaU1
import Derived.Test.YtpjinngngbifoaaU2
import Derived.Test.YtpjinngngbifoaaU3
import Derived.Test.YtpjinngngbifoaaU4
import Derived.Test.YtpjinngngbifoaaU5
import Derived.Test.YtpjinngngbifoaaU6
import Derived.Test.YtpjinngngbifoaaU7
import Derived.Test.YtpjinngngbifoaaU8
import Derived.Test.YtpjinngngbifoaaU9
import Derived.Test.YtpjinngngbifoaaU10
import Derived.Test.YtpjinngngbifoaaU11
import Derived.Test.YtpjinngngbifoaaU12
import Derived.Test.YtpjinngngbifoaaU13
import Derived.Test.YtpjinngngbifoaaU14
import Derived.Test.YtpjinngngbifoaaU15
import Derived.Test.YtpjinngngbifoaaU16
import Derived.Test.YtpjinngngbifoaaU17
import Derived.Test.YtpjinngngbifoaaU18
import Derived.Test.YtpjinngngbifoaaU19
import Derived.Test.YtpjinngngbifoaaU20
import Derived.Test.YtpjinngngbifoaaU21
import Derived.Test.YtpjinngngbifoaaU22
import Derived.Test.YtpjinngngbifoaaU23
import Derived.Test.YtpjinngngbifoaaU24
import Derived.Test.YtpjinngngbifoaaU25
import Derived.Test.YtpjinngngbifoaaU26
import Derived.Test.YtpjinngngbifoaaU27
import Derived.Test.YtpjinngngbifoaaU28
import Derived.Test.YtpjinngngbifoaaU29
import Derived.Test.YtpjinngngbifoaaU30
import Derived.Test.YtpjinngngbifoaaU31
import Derived.Test.YtpjinngngbifoaaU32
import Derived.Test.YtpjinngngbifoaaU33
import Derived.Test.YtpjinngngbifoaaU34
import Derived.Test.YtpjinngngbifoaaU35
import Derived.Test.YtpjinngngbifoaaU36
import Derived.Test.YtpjinngngbifoaaU37
import Derived.Test.YtpjinngngbifoaaU38
set_option linter.unusedSimpArgs false
set_option linter.unusedVariables false
namespace Go.Proofs.Ytpjinngngbifoaa
open Go.RowKit
def SameP (B0 b g r h : Nat) (F : Nat → Prop) (d : DiskM) (st : StM) (w : World) (e : Ending) (w' : World) : Prop := e = .returned (.bool true) ∧ Same (fun _ => True) w w'
set_option maxRecDepth 100000 in
set_option maxHeartbeats 4000000 in
theorem both_same (B0 b g r h k : Nat) (F : Nat → Prop) (d : DiskM) (st : StM) (w : World) (H : Twos w B0 b g r h F d st) (HP : PInv k d st) (hk : k ≤ 42) :
    Calls Try.prog 31 #[ptr b] w (SameP B0 b g r h F d st w) := by
  obtain ⟨pv, xv, hH, hE⟩ := H
  have hdr : ∀ (i : Int) W, Same (fun _ => True) w W → Calls Try.prog 39 #[ptr g, .int .i64 i] W (RPost (d.read i).1 (d.read i).2 W) := fun i W hs => dread_any g r F d i W (hH.disk.keepAll hs) (by have := HP.len.file i; omega)
  have hrr : ∀ (i : Int) W, Same (fun _ => True) w W → Calls Try.prog 59 #[ptr h, .int .i64 i] W (StrPost (d.read i).1 (d.read i).2 W) := fun i W hs => rread_any h d i W (hH.ref.keep hs trivial)
  have hrl : ∀ i : Int, (d.read i).1.length ≤ 20000 := fun i => by
    unfold DiskM.read; split
    · simp
    · have := HP.len.file i; show (d.file i).b.length ≤ _; omega
  have HDR := Lib.hid hdr
  have HRR := Lib.hid hrr
  have HRL := Lib.hid hrl
  have HH := Lib.hid hH
  have HE := Lib.hid hE
  have HPI := Lib.hid HP
  have b0 := hH.row.cell 0
  have b1 := hH.row.cell 1
  have hb := hH.row.lt
  simp at b0 b1
  clear hH hE HP hdr hrr hrl
  go_enter Try.func31, Try.ntmps31
  go_wp2
  go_loopw [3] (fun fi wr => ∃ i : Nat, i ≤ 2 ∧ fi = .int .i64 i ∧ Hid (Same (fun _ => True) w wr)) (fun fi _ => 2 - (intOf fi).toNat)
  case atStart => exact ⟨0, by omega, rfl, Lib.hid (Same.refl _ _)⟩
  case round =>
    obtain ⟨i, hi, rfl, HS⟩ := hrel
    obtain ⟨wo, rfl⟩ : ∃ wo : World, wo = wr := ⟨_, rfl⟩
    have rowo := HH.out.row.keep HS.out trivial
    have c0 := rowo.cell 0
    have hbo := rowo.lt
    simp at c0
    clear b0 b1 hb
    by_cases hlt : i < 2
    · have hrd := HDR.out i wo HS.out
      have hlen := HRL.out i
      have hrr := fun W hs => HRR.out i W hs
      have ROW := Lib.hid rowo
      clear rowo
      generalize (d.read (i : Int)).1 = bs at *
      generalize (d.read (i : Int)).2 = x at *
      have HR2 := Lib.hid hrr
      clear hrr
      go_wp2_with (go_at_call 39; refine stopAt ?_)
      unfold Hid
      refine hrd.mono ?_
      rintro e w2 ⟨v2, rfl, hown, hs2⟩
      have hby := own_by hown
      obtain ⟨A2, c2, rfl, hc2, hm2⟩ := own_cap hown
      have hcv := conv_by hby
      have row2 := ROW.out.keep hs2 trivial
      have d1 := row2.cell 1
      have hlt2 := row2.lt
      have hrr := HR2.out w2 (HS.out.trans hs2)
      have HS2 := Lib.hid (HS.out.trans hs2)
      unfold maxLen at hm2
      simp at d1
      clear hrd hown hby row2 hs2 c0
      go_wp2_with (go_at_call 59; refine hrr.mono ?_; rintro e w3 ⟨rfl, rfl⟩)
      go_roundw
      case rel => exact ⟨i + 1, by omega, by go_num, HS2⟩
      case measure => simp [intOf]; omega
    · obtain rfl : i = 2 := by omega
      clear c0 hlt hi
      have d3 := rowo.cell 3
      simp at d3
      have ROW := Lib.hid rowo
      clear rowo
      cases st with
      | none =>
        obtain ⟨-, rfl⟩ := HE.out
        go_wp2
        go_ret
        exact ⟨rfl, HS.out⟩
      | some z =>
        obtain ⟨l, recs⟩ := z
        obtain ⟨p, x, u, rfl, rfl, hw, hF, -, hx, -, -⟩ := HE.out
        have hLI := HPI.out.log l recs rfl
        have hLG : Hid (∀ W, Same (fun _ => True) w W → LogAt W p g r F d l) := Lib.hid fun W hs => ⟨HH.out.disk.keepAll hs, hw.keepAll hs, hF, Row.ne hw HH.out.disk.1 (by decide), map_ne HH.out.disk hw⟩
        have hXW : Hid (∀ W, Same (fun _ => True) w W → RefWal W x h B0 l recs u) := Lib.hid fun W hs => hx.keepAll hs
        have hov := rover_any x h B0 d l recs u wo (hXW.out wo HS.out) (HH.out.ref.keep HS.out trivial)
        have rox := (hXW.out wo HS.out).row
        obtain ⟨A, c, rfl, hcA, hmA⟩ := hx.own.form
        have x3 := rox.cell 3
        have x1 := rox.cell 1
        have hlx := rox.lt
        simp at x3 x1
        have hlr := hLI.rl
        obtain ⟨N, hN⟩ : ∃ n, n = recs.length := ⟨_, rfl⟩
        rw [← hN] at x3 hcA hlr
        have HN := Lib.hid hN
        have HLI := Lib.hid hLI
        clear hLI hw hF hx rox hN
        unfold maxLen at hmA
        go_wp2_with (go_at_call 60; refine stopAt ?_)
        unfold Hid
        refine hov.mono ?_
        rintro e w4 ⟨rfl, hs4⟩
        have HS4 := Lib.hid (HS.out.trans hs4)
        have row4 := HH.out.row.keep HS4.out trivial
        have q1 := row4.cell 1
        have q2 := row4.cell 2
        have q3 := row4.cell 3
        have hb4 := row4.lt
        have roh := HH.out.ref.keep HS4.out trivial
        have h4 := roh.cells.2.1
        have hh4 := roh.lt
        have rox4 := (hXW.out w4 HS4.out).row
        have y1 := rox4.cell 1
        have y3 := rox4.cell 3
        have hx4 := rox4.lt
        simp at q1 q2 q3 y1 y3
        have hct := wcount_any p g r F d l w4 (hLG.out w4 HS4.out)
        have hbt := fun W hs => wbytes_any p g r F d l W (hLG.out W hs)
        have HBT := Lib.hid hbt
        have ROW4 := Lib.hid row4
        clear hbt row4 roh rox4 hov hs4 d3 x3 x1 hbo hlx
        obtain ⟨ov, hov⟩ : ∃ ov, ov = l.over d := ⟨_, rfl⟩
        rw [← hov] at hct HBT ⊢
        have HOV := Lib.hid hov
        obtain ⟨off, hoff⟩ : ∃ off, off = d.off := ⟨_, rfl⟩
        rw [← hoff] at h4
        have HOFF := Lib.hid hoff
        clear hov hoff
        cases ov with
        | true =>
          simp only [if_true] at hct HBT
          have HBT := Lib.hid HBT.out
          cases off with
          | true =>
            clear hct
            go_wp2
            go_ret
            exact ⟨rfl, HS4.out⟩
          | false =>
            go_wp2_with (go_at_call 22; refine stopAt ?_)
            unfold Hid
            refine hct.mono ?_
            rintro e w5 ⟨rfl, hs5⟩
            have HS5 := Lib.hid (HS4.out.trans hs5)
            have row5 := HH.out.row.keep HS5.out trivial
            have r2 := row5.cell 2
            have hb5 := row5.lt
            have hbt := HBT.out w5 HS5.out
            simp at r2
            clear hct hs5 row5
            go_wp2_with (go_at_call 27; refine hbt.mono ?_; rintro e w6 ⟨rfl, hs6⟩)
            go_ret
            exact ⟨by simp, HS5.out.trans hs6⟩
        | false =>
          simp only [Bool.false_eq_true, if_false] at hct HBT
          have hcn : l.count ≤ 100000 := by have := HLI.out.cnt; omega
          have hbn : l.bytes ≤ 100000 := by have := HLI.out.byt; omega
          have hsame := HLI.out.same
          have hrd := HRR.out l.f
          have hsz : d.off = false → (str (d.read l.f).1).size = l.bytes ∧ l.count = N := fun ho => by
            rcases hsame with h1 | h1 | ⟨h1, h2, h3⟩
            · rw [ho] at h1; cases h1
            · rw [← HOV.out] at h1; cases h1
            · refine ⟨?_, by rw [h2, HN.out]⟩
              have e : d.read l.f = ((d.file l.f).b, 0) := by unfold DiskM.read; rw [if_neg (by simp [may_live ho h1])]
              rw [e, str_size, h3]
          rw [← HOFF.out] at hsz
          have hsl : (str (d.read l.f).1).size ≤ 20000 := by rw [str_size]; exact HRL.out l.f
          obtain ⟨s, hs⟩ : ∃ s, s = str (d.read l.f).1 := ⟨_, rfl⟩
          obtain ⟨q, hq⟩ : ∃ q, q = (d.read l.f).2 := ⟨_, rfl⟩
          unfold StrPost at hrd
          rw [← hs, ← hq] at hrd
          rw [← hs] at hsz hsl
          have HRD := Lib.hid hrd
          have HSZ := Lib.hid hsz
          clear hs hq hsame hrd hsz
          have hq' := fun n => ((HRD.out (w4.drewN n) (HS4.out.drewN _)).mono (fun e w' h => (⟨h.1, h.2.symm⟩ : e = .returned (.tuple #[.string s, .int .i64 q]) ∧ w' = w4.drewN n)))
          cases off with
          | true =>
            clear hct
            go_wp2
            go_quiet ((go_at_call 59; exact Calls.quiet_of_same (hq' _)))
            go_wp2
            go_ret
            exact ⟨rfl, HS4.out.drewN _⟩
          | false =>
            obtain ⟨hz1, hz2⟩ := HSZ.out rfl
            obtain rfl := hz2
            rw [← hz1] at HBT
            clear hz1
            have hct := fun n => wcount_any p g r F d l (w4.drewN n) (hLG.out _ (HS4.out.drewN n))
            rw [← HOV.out] at hct
            simp only [Bool.false_eq_true, if_false] at hct
            go_wp2
            go_quiet ((go_at_call 59; exact Calls.quiet_of_same (hq' _)))
            go_wp2_with (go_at_call 22; refine stopAt ?_)
            unfold Hid
            refine (hct _).mono ?_
            rintro e w5 ⟨rfl, hs5⟩
            have HS5 := Lib.hid ((HS4.out.drewN _).trans hs5)
            have row5 := HH.out.row.keep HS5.out trivial
            have r2 := row5.cell 2
            have hb5 := row5.lt
            have hbt := HBT.out w5 HS5.out
            simp at r2
            clear hct hs5 row5
            go_wp2_with (go_at_call 27; refine hbt.mono ?_; rintro e w6 ⟨rfl, hs6⟩)
            go_ret
            exact ⟨by simp, HS5.out.trans hs6⟩
end Go.Proofs.Ytpjinngngbifoaa
namespace Go.Proofs.Ytpjinngngbifoaa
open Go.RowKit
theorem lightw_any2 {v : Value} {ops : List OpW} {most : Int} {S : Nat → Prop} {w : World} (hv : SlOf cOpW w S v ops) (hm0 : 0 ≤ most ∧ most ≤ 1000) {b : Bool} (h : b = true ↔ lightW most ops) :
    Calls Try.prog 23 #[v, .int .i64 most] w fun e w' => e = .returned (.bool b) ∧ w = w' := by
  refine (lightw_any v ops most S w hv hm0).mono ?_
  rintro e w' ⟨b', rfl, h', rfl⟩
  have : b' = b := by
    cases b <;> cases b' <;> simp_all
  subst this
  exact ⟨rfl, rfl⟩
/-- What holds in the loop. -/
def AllIn (w : World) (b g r h k : Nat) (wr : World) : Prop := ∃ d st F, Twos wr w.heap.size b g r h F d st ∧ PInv (k + 1) d st ∧ Same (fun q => q < w.heap.size) w wr
set_option maxRecDepth 100000 in
set_option maxHeartbeats 2000000 in
theorem walall_walk (vo : Value) (ops : List OpW) (w : World) (hvo : SlOf cOpW w (· < w.heap.size) vo ops) :
    Calls Try.prog 7 #[vo] w (TrueP w) := by
  obtain ⟨A, ca, rfl, hca, hma, -⟩ := id hvo
  unfold maxLen at hma
  obtain ⟨N, hN⟩ : ∃ n, n = ops.length := ⟨_, rfl⟩
  rw [← hN] at hca hvo ⊢
  have HN := Lib.hid hN
  have HO := Lib.hid hvo
  clear hN hvo
  by_cases hlw : lightW 40 ops
  case neg =>
    have hlt := fun W (h : Same (fun _ => True) w W) => lightw_any2 (b := false) (HO.out.keep (h.mono fun _ _ _ => trivial)) (most := 40) (by omega) (by simp [hlw])
    have HLT := Lib.hid hlt
    clear hlt hlw
    go_enter Try.func7, Try.ntmps7
    go_wp2_with (first
      | (go_at_call 9; refine (walbegun_any _).mono ?_; rintro e w1 ⟨rfl, hs1⟩)
      | (go_at_call 23; refine (HLT.out _ hs1).mono ?_; rintro e w' ⟨rfl, rfl⟩))
    go_ret
    exact ⟨rfl, hs1⟩
  have hlt := fun W (h : Same (fun _ => True) w W) => lightw_any2 (b := true) (HO.out.keep (h.mono fun _ _ _ => trivial)) (most := 40) (by omega) (by simp [hlw])
  have HLT := Lib.hid hlt
  have HLW := Lib.hid hlw
  have hn40 : N ≤ 40 := by have := hlw.1; have := HN.out; omega
  clear hlt hlw
  go_enter Try.func7, Try.ntmps7
  go_wp2_with (first
    | (go_at_call 9; refine (walbegun_any _).mono ?_; rintro e w1 ⟨rfl, hs1⟩)
    | (go_at_call 23; refine (HLT.out _ hs1).mono ?_; rintro e w' ⟨rfl, rfl⟩)
    | (go_at_call 12; refine (dnew_any _).mono ?_; rintro e w2 ⟨g, r, rfl, hg, hr, hD0, hs2⟩)
    | (go_at_call 28; refine (rnew_any _).mono ?_; rintro e w3 ⟨h, rfl, hh, hR0, hs3⟩)
    | (go_at_call 29; refine stopAt ?_))
  unfold Hid
  have hb1 : Same (fun _ => True) w3 (w3.alloc (.cells #[ptr g, ptr h, .pointer none, .pointer none] 62)) := (Same.refl _ _).alloc _
  have hrow := Row.new w3 62 [ptr g, ptr h, .pointer none, .pointer none]
  have hH : HalfW (w3.alloc (.cells #[ptr g, ptr h, .pointer none, .pointer none] 62)) w.heap.size w3.heap.size g r h (fun _ => False) DiskM.new (.pointer none) (.pointer none) := ⟨hrow, (hD0.keepAll hs3).keepAll hb1, hR0.keep hb1 trivial, fun _ h => h.elim, by have := hs1.size; have := hs2.size; have := hs3.size; omega, by have := hs1.size; omega, by have := hs1.size; omega, by have := hs1.size; have := hs2.size; omega⟩
  have hop := open_done (k := 0) _ hH ⟨by decide, by decide⟩ (by decide) (fun f hf => by rcases hf with rfl | rfl <;> simp [DiskM.new, DiskM.file]) (by omega) fun m0 m1 h0 h1 => PInv.new (d := DiskM.new) h0 h1
  have HS4 := Lib.hid ((((hs1.trans hs2).trans hs3).trans hb1))
  clear hs1 hs2 hs3 hb1 hrow hH hD0 hR0 hg hr hh
  refine hop.mono ?_
  rintro e w4 ⟨rfl, d0, st0, F0, hT0, hP0, hs5⟩
  have HI : Hid (AllIn w w3.heap.size g r h 0 w4) := Lib.hid ⟨d0, st0, F0, hT0, hP0, (HS4.out.mono fun _ _ _ => trivial).trans hs5⟩
  generalize w3.heap.size = b at *
  clear hT0 hP0 hs5 hop
  go_wp2
  go_loopw [4] (fun vi wr => ∃ k : Nat, k ≤ N ∧ vi = .int .i64 k ∧ Hid (AllIn w b g r h k wr)) (fun vi _ => N - (intOf vi).toNat)
  case atStart => exact ⟨0, by omega, rfl, HI⟩
  case round =>
    obtain ⟨k, hk, rfl, HI⟩ := hrel
    obtain ⟨wo, rfl⟩ : ∃ wo : World, wo = wr := ⟨_, rfl⟩
    obtain ⟨d, st, F, hT, hP, hs⟩ := HI.out
    by_cases hlt : k < N
    · have hko : k < ops.length := by rw [← HN.out]; exact hlt
      have hso := HLW.out.2 _ (List.getElem_mem hko)
      obtain ⟨ad, vb, vl, vk, rfl, hS, c0, c1, c2, c3, c4, c5, hB, hL, hK, hki, hn⟩ := opw_at (HO.out.keep hs) hko
      generalize ops[k] = o at *
      have hdo := both_do w.heap.size b g r h (k + 1) F d st o vb vl vk wo hT hP (by omega) hso hB hL hK hki hn
      have HS := Lib.hid hs
      clear hB hL hK hso hT hP hs
      go_wp2_with (go_at_call 30; refine stopAt ?_)
      unfold Hid
      refine hdo.mono ?_
      rintro e w5 ⟨rfl, d5, st5, F5, hT5, hP5, hs5⟩
      have hsm := both_same w.heap.size b g r h (k + 2) F5 d5 st5 w5 hT5 hP5 (by omega)
      have HI5 : Hid (∀ W, Same (fun _ => True) w5 W → AllIn w b g r h (k + 1) W) := Lib.hid fun W hW => ⟨d5, st5, F5, hT5.keepAll hW, hP5, (HS.out.trans hs5).trans (hW.mono fun _ _ _ => trivial)⟩
      clear hdo hT5 hP5 hs5 HI
      go_wp2_with (go_at_call 31; refine hsm.mono ?_; rintro e w6 ⟨rfl, hs6⟩)
      go_roundw
      case rel => exact ⟨k + 1, by omega, by go_num, Lib.hid (HI5.out _ hs6)⟩
      case measure => simp [intOf]; omega
    · obtain rfl : N = k := by omega
      clear hT hP
      go_wp2
      go_ret
      exact ⟨rfl, hs.mono fun k hk _ => hk⟩
end Go.Proofs.Ytpjinngngbifoaa
