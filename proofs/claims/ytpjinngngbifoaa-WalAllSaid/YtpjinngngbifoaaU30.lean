/-
  Words, plain models, laws and walks that the claims of this layer share (joined by shake.py). No condition.
-/
import Derived.Test.YtpjinngngbifoaaU1
import Derived.Test.YtpjinngngbifoaaU2
import Derived.Test.YtpjinngngbifoaaU3
import Derived.Test.YtpjinngngbifoaaU4
import Derived.Test.YtpjinngngbifoaaU5
import Derived.Test.YtpjinngngbifoaaU6
import Derived.Test.YtpjinngngbifoaaU7
import Derived.Test.YtpjinngngbifoaaU8
import Derived.Test.YtpjinngngbifoaaU9
import Derived.Test.YtpjinngngbifoaaU10
import Derived.Test.YtpjinngngbifoaaU11
import Derived.Test.YtpjinngngbifoaaU12
import Derived.Test.YtpjinngngbifoaaU13
import Derived.Test.YtpjinngngbifoaaU14
import Derived.Test.YtpjinngngbifoaaU15
import Derived.Test.YtpjinngngbifoaaU16
import Derived.Test.YtpjinngngbifoaaU17
import Derived.Test.YtpjinngngbifoaaU18
import Derived.Test.YtpjinngngbifoaaU19
import Derived.Test.YtpjinngngbifoaaU20
import Derived.Test.YtpjinngngbifoaaU21
import Derived.Test.YtpjinngngbifoaaU22
import Derived.Test.YtpjinngngbifoaaU23
import Derived.Test.YtpjinngngbifoaaU24
import Derived.Test.YtpjinngngbifoaaU25
import Derived.Test.YtpjinngngbifoaaU26
import Derived.Test.YtpjinngngbifoaaU27
import Derived.Test.YtpjinngngbifoaaU28
import Derived.Test.YtpjinngngbifoaaU29
set_option linter.unusedSimpArgs false
set_option linter.unusedVariables false
namespace Go.Proofs.Ytpjinngngbifoaa
open Go.RowKit
/-- An append held back from go_simp, so that a fact of its run is used. -/
def heldApp (ats : Array TypeId) (ty : TypeId) (args : Array Value) : Sem Value := Builtin.append_ ats ty args
theorem heldApp_eq (ats : Array TypeId) (ty : TypeId) (args : Array Value) : Builtin.append_ ats ty args = heldApp ats ty args := rfl
attribute [local go_sem ↓] heldApp_eq
set_option maxRecDepth 100000 in
set_option maxHeartbeats 4000000 in
theorem rrew1 (x h B : Nat) (S : Nat → Prop) (d : DiskM) (l : WalM) (recs rs : List (List UInt8)) (v u : Value) (w : World) (H : RefWal w x h B l recs v) (hr : RefAt w h d) (hd : d.Fit) (hds : d.steps + 3 < 1000000) (hB : B ≤ w.heap.size)
    (hu : RdS w S u rs) (hSx : Hid (∀ k, S k → k ≠ x ∧ k ≠ h)) (hf : (fileW 0 rs).length ≤ 19000) (hov : l.over d = false) (hg : ¬ 4611686018427387904 ≤ l.gen + 1) (hfb : (l.f == 0) = true) :
    Calls Try.prog 57 #[ptr x, u] w (XPost x h B v w (rewriteW d l rs).1 (rewriteW d l rs).2.1 (rewriteW d l rs).2.2 (if (rewriteW d l rs).1 = 0 then rs else recs)) := by
  have hr9 : Hid (∀ r ∈ rs, r.length ≤ 19000) := Lib.hid fun r hr => by have := mem_flat_le hr; rw [fileW_len] at hf; omega
  have hN9 : rs.length ≤ 2200 := by rw [fileW_len] at hf; omega
  have hmy := rwmay_any x h B S d l recs rs v u w H hr hu hr9 (by omega)
  rw [if_neg (by simp [hov])] at hmy
  have hne := Lib.hid (H.own_ne hr)
  have HH := Lib.hid H
  have HR := Lib.hid hr
  have HU := Lib.hid hu
  have kc := conv_const
  obtain ⟨A, c, rfl, hc, hm, -⟩ := id hu
  obtain ⟨Av, cv, rfl, -, -⟩ := H.own.form
  obtain ⟨R, hR⟩ : ∃ R, R = rewriteW d l rs := ⟨_, rfl⟩
  rw [← hR]
  have HRR := Lib.hid hR
  obtain ⟨Z, hZ⟩ : ∃ Z, Z = if R.1 = 0 then rs else recs := ⟨_, rfl⟩
  rw [← hZ]
  have HZ := Lib.hid hZ
  clear hZ hR H hr hu
  obtain ⟨G, hG⟩ : ∃ G, G = l.gen + 1 := ⟨_, rfl⟩
  have hwr : IntKind.u64.wrap ((l.gen : Int) + 1) = (G : Int) := by simp [IntKind.wrap, IntKind.bits, IntKind.signed]; omega
  have hgd : decide ((4611686018427387904 : Int) ≤ (G : Int)) = false := decide_eq_false (by omega)
  have hG64 : G < 2 ^ (8 * 8) := by omega
  have heig := Lib.hid (fun W => refeight_any G W hG64)
  have hot : l.other = 1 := by unfold WalM.other; simp at hfb; simp [hfb]
  obtain ⟨⟨x1, d1⟩, hX1⟩ : ∃ X, X = d.clear 1 := ⟨_, rfl⟩
  obtain ⟨⟨x2, d2⟩, hX2⟩ : ∃ X, X = d1.append 1 (fileW G rs) := ⟨_, rfl⟩
  obtain ⟨⟨x3, d3⟩, hX3⟩ : ∃ X, X = d2.sync 1 := ⟨_, rfl⟩
  have HR2 : Hid (R = if x1 ≠ 0 then (x1, d1, l.fails x1) else if x2 ≠ 0 then (x2, d2, l.fails x2) else if x3 ≠ 0 then (x3, d3, l.fails x3) else (0, d3, { l with f := 1, gen := G, count := rs.length, bytes := (fileW G rs).length })) := Lib.hid (by
    rw [HRR.out]; unfold rewriteW
    rw [if_neg (by simp [hov]), if_neg hg, hot, ← hG, ← hX1]
    dsimp only
    rw [← hX2]
    dsimp only
    rw [← hX3])
  have fit1 := DiskM.clear_fit hd 1 (by omega)
  rw [← hX1] at fit1
  have fit2 := DiskM.append_fit fit1.1 1 (fileW G rs) (by have := fit1.2.1; omega)
  rw [← hX2] at fit2
  have hb1 : x1 = 0 → (d1.file 1).b = [] := fun h => by
    have := DiskM.clear_file (d := d) (f := 1) (by simp) (by rw [← hX1]; exact h)
    rw [← hX1] at this
    rw [this]
  have hfl : (fileW G rs).length ≤ 19000 := by rw [fileW_len] at hf ⊢; exact hf
  have HFL := Lib.hid hfl
  have HB1 := Lib.hid hb1
  have HF1 := Lib.hid fit1.1
  have HF2 := Lib.hid fit2.1
  have HX1 := Lib.hid hX1.symm
  have HX2 := Lib.hid hX2.symm
  have HX3 := Lib.hid hX3.symm
  clear hX1 hX2 hX3 hG hb1 fit1 fit2 HRR hf hfl hot hov hg hG64
  obtain ⟨N, hN⟩ : ∃ N, N = rs.length := ⟨_, rfl⟩
  rw [← hN] at hc hN9 hmy ⊢
  have hU := HU.out
  rw [← hN] at hU
  have HU := Lib.hid hU
  have HN := Lib.hid hN
  clear hN hU
  unfold maxLen at hm
  go_enter Try.func57, Try.ntmps57
  go_wp2_with (first | (go_at_call 72; refine hmy.mono ?_; rintro e w1 ⟨rfl, hs1⟩; have hrw := (HH.out.keepAll hs1).row; have c0 := hrw.cell 0; have c1 := hrw.cell 1; have c2 := hrw.cell 2; have hlt := hrw.lt; simp at c0 c1 c2) | (go_at_call 75; refine stopAt ?_))
  unfold Hid
  have hcl := rclear_any h d 1 w1 (HR.out.keep hs1 trivial) hd
  rw [HX1.out] at hcl
  refine hcl.mono ?_
  rintro e wa ⟨rfl, hda, hsA⟩
  have hwa : RefWal wa x h B l recs (.slice Av recs.length cv) := (HH.out.keepAll hs1).keep hsA HH.out.xh (fun k hk e => by subst e; exact hne.out.2 hk)
  clear hcl c0 c1 c2 hlt hrw hmy
  go_wp2_with (go_at_call 73; refine stopAt ?_)
  unfold Hid
  refine (rfails_any x h B l recs _ _ wa hwa).mono ?_
  rintro e W1 ⟨rfl, hwb, hsB⟩
  have HS1 : Hid (Same (fun k => k ≠ x ∧ k ≠ h) w W1) := Lib.hid (((hs1.mono fun _ _ _ => trivial).trans (hsA.mono fun _ _ hk => hk.2)).trans (hsB.mono fun _ _ hk => hk.1))
  have HD1 := Lib.hid (hda.keep hsB HH.out.xh.symm)
  have HW1 := Lib.hid hwb
  clear hwb hda hsA hsB hwa hs1
  by_cases hx1 : x1 = 0
  case neg =>
    go_wp2
    go_ret
    rw [HZ.out, HR2.out, if_pos hx1]
    dsimp only
    rw [if_neg hx1]
    exact ⟨rfl, ⟨_, HW1.out, NewOwn.refl _ _⟩, HD1.out, HS1.out.mono fun k _ hk => ⟨hk.1, hk.2.1⟩⟩
  subst hx1
  have hb1 := HB1.out rfl
  have hw1 := HW1.out
  rw [WalM.fails0] at hw1
  have HW1 := Lib.hid hw1
  have c2 := hw1.row.cell 2
  have hlt := hw1.row.lt
  simp at c2
  clear hw1
  go_wp2_with (go_at_call 37; refine stopAt ?_)
  unfold Hid
  have hsA : Same (fun _ => True) W1 (W1.alloc (.cells #[.int .u8 71] 5 (1, 2))) := (Same.refl _ _).alloc _
  refine (heig.out _).mono ?_
  rintro e w1 ⟨u1, rfl, hu1, hs1⟩
  obtain ⟨A1, c1, rfl, -, -⟩ := hu1.formN (putN_len 8 G)
  have hb71 : By w1 (fun _ => True) (.slice (some ⟨W1.heap.size, 0, none⟩) 1 1) [71] := (By.lit (n := 1) (c := 1) (fr := (1, 2)) (e := 5) (w := W1.alloc (.cells #[.int .u8 71] 5 (1, 2))) (heap_now rfl) trivial rfl (Nat.le_refl 1) (by simp [maxLen])).keepAll hs1
  have HSa := Lib.hid (hsA.trans hs1)
  clear hsA hs1 heig c2 hlt
  go_wp2_with (at_builtin; refine stopAt ?_)
  unfold Hid
  refine wpList_full rfl (.tmp 40) (.tmp 46) rfl (some ⟨W1.heap.size, 0, none⟩) 1 [71] (putN 8 G) (fun _ => True) _ A1 8 c1 rfl hb71 rfl (by have := hu1.by_; exact this) (by omega) ?_
  intro A2 c2 w2 hby2 hs2
  have hgen : [71] ++ putN 8 G = genF G := rfl
  rw [hgen] at hby2
  have hfp := rfput_any (.slice none 0 0) _ [] (genF G) (fun _ => True) _ w2 ⟨none, 0, rfl, by simp, by simp [maxLen], Sl.nil _ _ _ _⟩ hby2 (by simp) (by rw [genF_len]; omega)
  rw [List.nil_append] at hfp
  have HSb := Lib.hid (HSa.out.trans hs2)
  clear hb71 hu1 hby2 hs2 hgen
  go_wp2_with (go_at_call 36; refine hfp.mono ?_; rintro e w3 ⟨u3, rfl, hb3, hs3⟩; obtain ⟨A3, n3, rfl, -, -⟩ := hb3.formN (n := 17) (by rw [recF_len, genF_len]))
  have HSc := Lib.hid (HSb.out.trans hs3)
  have hstart : Hid (OwnB w3 W1.heap.size (.slice A3 17 n3) (recsF (genF G :: (rs.take 0).map (82 :: ·)))) := Lib.hid (by
    have := hb3.lower (B' := W1.heap.size) HSb.out.size
    simpa [recsF] using this)
  clear hfp hb3 hs3
  go_loopw [7, 9] (fun b i wr => ∃ k : Nat, k ≤ N ∧ i = .int .i64 k ∧ Hid (OwnB wr W1.heap.size b (recsF (genF G :: (rs.take k).map (82 :: ·)))) ∧ Hid (Same (fun _ => True) W1 wr)) (fun _ i _ => N - (intOf i).toNat)
  case atStart => exact ⟨0, by omega, rfl, hstart, HSc⟩
  case round =>
    obtain ⟨k, hk, rfl, HB, HS⟩ := hrel
    obtain ⟨wo, rfl⟩ : ∃ wo : World, wo = wr := ⟨_, rfl⟩
    clear hstart
    obtain ⟨LB, hLB⟩ : ∃ LB, LB = (recsF (genF G :: (rs.take k).map (82 :: ·))).length := ⟨_, rfl⟩
    obtain ⟨Ab, nb, rfl, -, -⟩ := HB.out.formN hLB.symm
    have HLB := Lib.hid hLB
    have hLBb : LB ≤ 20000 := by rw [hLB]; exact Nat.le_trans (Nat.le_trans (part_le G rs k) HFL.out) (by omega)
    clear hLB
    by_cases hkN : k < N
    · have hkr : k < rs.length := by rw [← HN.out]; exact hkN
      obtain ⟨ad, rfl, hck⟩ := ((HU.out.keep (HS1.out.mono fun k _ hk => hSx.out k hk)).keep (HS.out.mono fun _ _ _ => trivial)).at_ hkr
      have hlk := hr9.out _ (List.getElem_mem hkr)
      have hpl := Lib.hid (take_map_snoc rs hkr G)
      generalize rs[k] = r at hck hlk hpl
      have hadd := add_R r (by omega)
      have hltad := World.block_lt_of_cell? wo _ hck
      go_wp2_with (with_reducible refine stopConv rfl ?_)
      unfold Hid
      refine wpList_bytes rfl rfl Try.underlying9 Try.underlying24 Try.underlying5 (str (82 :: r)) rfl (by rw [str_size]; simp only [maxLen, List.length_cons]; omega) ?_
      intro w5 cc q more hrow hq hcc hmm hS5 hsz
      have hbs : (str (82 :: r)).size = (82 :: r).length := str_size _
      rw [hbs] at hq hcc ⊢
      have hby := hrow.by_ (bl_len (str (82 :: r))) (by rw [hbs]; exact hcc) hmm
      rw [bl_str, hbs] at hby
      have hfp := rfput_any _ _ (recsF (genF G :: (rs.take k).map (82 :: ·))) (82 :: r) _ _ w5 (HB.out.keepAll hS5).by_ hby (by rw [← HLB.out]; omega) (by simp; omega)
      rw [← hpl.out] at hfp
      have HS5 := Lib.hid (HS.out.trans hS5)
      obtain ⟨M6, hM6⟩ : ∃ M6, M6 = (recsF (genF G :: (rs.take (k + 1)).map (82 :: ·))).length := ⟨_, rfl⟩
      have HM6 := Lib.hid hM6.symm
      clear hby hrow hck hM6 hadd hS5 hsz hq hcc hmm hbs
      go_wp2_with (go_at_call 36; refine hfp.mono ?_; rintro e w6 ⟨u6, rfl, hb6, hs6⟩; obtain ⟨A6, n6, rfl, -, -⟩ := hb6.formN HM6.out)
      have HO6 := Lib.hid (hb6.lower (B' := W1.heap.size) HS5.out.size)
      have HS6 := Lib.hid (HS5.out.trans hs6)
      clear hfp hb6 hs6
      go_wp2
      go_roundw
      case rel => exact ⟨k + 1, by omega, by go_num, HO6, HS6⟩
      case measure => simp [intOf]; omega
    · obtain rfl : N = k := by omega
      clear hk hkN
      have htk : rs.take N = rs := List.take_of_length_le (by rw [HN.out]; exact Nat.le_refl _)
      rw [htk] at HB HLB
      clear htk
      have hsE : Same (fun _ => True) wo (wo.alloc (.cells #[.int .u8 69] 5 (1, 2))) := (Same.refl _ _).alloc _
      have hb69 : By (wo.alloc (.cells #[.int .u8 69] 5 (1, 2))) (fun _ => True) (.slice (some ⟨wo.heap.size, 0, none⟩) 1 1) [69] := By.lit (n := 1) (c := 1) (fr := (1, 2)) (e := 5) (heap_now rfl) trivial rfl (Nat.le_refl 1) (by simp [maxLen])
      have hfp := rfput_any _ _ (recsF (genF G :: rs.map (82 :: ·))) [69] _ _ _ (HB.out.keepAll hsE).by_ hb69 (by rw [← HLB.out]; omega) (by simp)
      rw [← fileW_split] at hfp
      have HSE := Lib.hid (HS.out.trans hsE)
      obtain ⟨LF, hLF⟩ : ∃ LF, LF = (fileW G rs).length := ⟨_, rfl⟩
      have HLF := Lib.hid hLF
      have hLFb : LF ≤ 20000 := by rw [hLF]; exact Nat.le_trans HFL.out (by omega)
      clear hsE hb69 hLF
      go_wp2_with (go_at_call 36; refine hfp.mono ?_; rintro e w8 ⟨u8, rfl, hb8, hs8⟩; obtain ⟨A8, n8, rfl, -, -⟩ := hb8.formN HLF.out.symm)
      have hs18 := HSE.out.trans hs8
      have HB8 := Lib.hid hb8
      have HS8 : Hid (Same (fun k => k ≠ x ∧ k ≠ h) w w8) := Lib.hid (HS1.out.trans (hs18.mono fun _ _ _ => trivial))
      have HW8 := Lib.hid (HW1.out.keepAll hs18)
      have HR8 := Lib.hid (HD1.out.keep hs18 trivial)
      have c0 := HW8.out.row.cell 0
      have hlt := HW8.out.row.lt
      simp at c0
      clear hb8 hs8 hs18 hfp
      refine wp_region_tail_d (L := [.eq (ptr x), .eq (ptr x), .eq (ptr x), .eq (.pointer (some ⟨x, 0, none⟩)), .eq (ptr h), .eq (.int .i64 1), .eq (.slice A8 LF n8), .eq (.string (str (fileW G rs)))]) 8 0 (by omega) (by kernel_rfl) (by kernel_rfl) rfl rfl rfl rfl rfl rfl ?_ ?_ ?_
      · refine ⟨?_, ?_, ?_, ?_, ?_, ?_, ?_, ?_, trivial⟩
        · intro ac wc hs hd hz hf hw K hK
          have e0 : ac.eval (.tmp 0) = (ptr x) := hf 0 rfl
          clear hd hz hf hw
          simp only [Region.wanted, if_true, Oper.wp, execOp, resolve, List.map_toArray, List.map_cons, List.map_nil, Option.map_some, Option.map_none, e0]
          go_simp
          exact hK _ _ rfl (Same.refl _ _)
        · intro ac wc hs hd hz hf hw K hK
          have e0 : ac.eval (.tmp 0) = (ptr x) := hf 0 rfl
          clear hd hz hf hw
          simp only [Region.wanted, if_true, Oper.wp, execOp, resolve, List.map_toArray, List.map_cons, List.map_nil, Option.map_some, Option.map_none, e0]
          go_simp
          exact hK _ _ rfl (Same.refl _ _)
        · intro ac wc hs hd hz hf hw K hK
          have e0 : ac.eval (.tmp 76) = (ptr x) := hw 1 rfl
          clear hd hz hf hw
          simp only [Region.wanted, if_true, Oper.wp, execOp, resolve, List.map_toArray, List.map_cons, List.map_nil, Option.map_some, Option.map_none, e0]
          go_simp
          exact hK _ _ rfl (Same.refl _ _)
        · intro ac wc hs hd hz hf hw K hK
          have e0 : ac.eval (.tmp 77) = (ptr x) := hw 2 rfl
          clear hd hz hf hw
          simp only [Region.wanted, if_true, Oper.wp, execOp, resolve, List.map_toArray, List.map_cons, List.map_nil, Option.map_some, Option.map_none, e0]
          go_simp
          exact hK _ _ rfl (Same.refl _ _)
        · intro ac wc hs hd hz hf hw K hK
          have e0 : ac.eval (.tmp 78) = (.pointer (some ⟨x, 0, none⟩)) := hw 3 rfl
          have m0 : wc.cell? ⟨x, 0, none⟩ = some (ptr h) := hs.cell (p := ⟨x, 0, none⟩) trivial c0
          clear hd hz hf hw
          simp only [Region.wanted, if_true, Oper.wp, execOp, resolve, List.map_toArray, List.map_cons, List.map_nil, Option.map_some, Option.map_none, e0]
          go_simp
          exact hK _ _ rfl (Same.refl _ _)
        · intro ac wc hs hd hz hf hw K hK
          have e0 : ac.eval (.tmp 6) = (.int .i64 1) := hf 6 rfl
          clear hd hz hf hw
          simp only [Region.wanted, if_true, Oper.wp, execOp, resolve, List.map_toArray, List.map_cons, List.map_nil, Option.map_some, Option.map_none, e0]
          go_simp
          exact hK _ _ rfl (Same.refl _ _)
        · intro ac wc hs hd hz hf hw K hK
          have e0 : ac.eval (.tmp 7) = (.slice A8 LF n8) := hf 7 rfl
          clear hd hz hf hw
          simp only [Region.wanted, if_true, Oper.wp, execOp, resolve, List.map_toArray, List.map_cons, List.map_nil, Option.map_some, Option.map_none, e0]
          go_simp
          exact hK _ _ rfl (Same.refl _ _)
        · intro ac wc hs hd hz hf hw K hK
          have e0 : ac.eval (.tmp 81) = (.slice A8 LF n8) := hw 6 rfl
          have hcv := ((HB8.out.by_).keepAll hs).conv (P := Try.prog) 24 9 5 Try.underlying24 Try.underlying5 Try.underlying9
          clear hd hz hf hw
          simp only [Region.wanted, if_true, Oper.wp, execOp, resolve, List.map_toArray, List.map_cons, List.map_nil, Option.map_some, Option.map_none, e0]
          go_simp
          exact hK _ _ rfl (Same.refl _ _)
      · intro vs wR hvl hvp hsR
        rcases vs with _ | ⟨z0, _ | ⟨z1, _ | ⟨z2, _ | ⟨z3, _ | ⟨z4, _ | ⟨z5, _ | ⟨z6, _ | ⟨z7, _ | ⟨zz, zr⟩⟩⟩⟩⟩⟩⟩⟩⟩
        rotate_right 1
        · simp at hvl
        · simp at hvl
        · simp at hvl
        · simp at hvl
        · simp at hvl
        · simp at hvl
        · simp at hvl
        · simp at hvl
        · simp at hvl
        · obtain rfl : z0 = (ptr x) := hvp 0 (by omega)
          obtain rfl : z1 = (ptr x) := hvp 1 (by omega)
          obtain rfl : z2 = (ptr x) := hvp 2 (by omega)
          obtain rfl : z3 = (.pointer (some ⟨x, 0, none⟩)) := hvp 3 (by omega)
          obtain rfl : z4 = (ptr h) := hvp 4 (by omega)
          obtain rfl : z5 = (.int .i64 1) := hvp 5 (by omega)
          obtain rfl : z6 = (.slice A8 LF n8) := hvp 6 (by omega)
          obtain rfl : z7 = (.string (str (fileW G rs))) := hvp 7 (by omega)
          clear hvl hvp
          simp only [putAll, Act.put, List.setIfInBounds_toArray, List.set_cons_succ, List.set_cons_zero, List.take_succ_cons, List.take_zero, List.drop_succ_cons, List.drop_zero, List.eraseIdx_cons_succ, List.eraseIdx_cons_zero]
          go_wp2_with (go_at_call 50; refine stopAt ?_)
          unfold Hid
          have hd8 := HR8.out.keep hsR trivial
          have happ := rappend_any h d1 1 (fileW G rs) wR hd8 HF1.out (by have h1 := hb1; have h2 := HFL.out; rw [h1]; simp; omega)
          rw [HX2.out] at happ
          refine happ.mono ?_
          rintro e wa ⟨rfl, hda, hsA⟩
          have hwa : RefWal wa x h B l recs (.slice Av recs.length cv) := (HW8.out.keepAll hsR).keep hsA HW8.out.xh (fun k hk e => by subst e; exact hne.out.2 hk)
          clear happ
          go_wp2_with (go_at_call 73; refine stopAt ?_)
          unfold Hid
          refine (rfails_any x h B l recs _ _ wa hwa).mono ?_
          rintro e W2 ⟨rfl, hwb, hsB⟩
          have HS2 : Hid (Same (fun k => k ≠ x ∧ k ≠ h) w W2) := Lib.hid (((HS8.out.trans (hsR.mono fun _ _ _ => trivial)).trans (hsA.mono fun _ _ hk => hk.2)).trans (hsB.mono fun _ _ hk => hk.1))
          have HD2 := Lib.hid (hda.keep hsB HH.out.xh.symm)
          have HW2 := Lib.hid hwb
          clear hwb hda hsA hsB hwa hd8 c0 hlt hsR
          by_cases hx2 : x2 = 0
          case neg =>
            go_wp2
            go_ret
            rw [HZ.out, HR2.out, if_neg (by simp), if_pos hx2]
            dsimp only
            rw [if_neg hx2]
            exact ⟨rfl, ⟨_, HW2.out, NewOwn.refl _ _⟩, HD2.out, HS2.out.mono fun k _ hk => ⟨hk.1, hk.2.1⟩⟩
          subst hx2
          have hw2 := HW2.out
          rw [WalM.fails0] at hw2
          have HW2 := Lib.hid hw2
          have c0 := hw2.row.cell 0
          have hlt := hw2.row.lt
          simp at c0
          clear hw2
          go_wp2_with (go_at_call 74; refine stopAt ?_)
          unfold Hid
          have hsy := rsync_any h d2 1 W2 HD2.out HF2.out
          rw [HX3.out] at hsy
          refine hsy.mono ?_
          rintro e wa ⟨rfl, hda, hsA⟩
          have hwa : RefWal wa x h B l recs (.slice Av recs.length cv) := HW2.out.keep hsA HH.out.xh (fun k hk e => by subst e; exact hne.out.2 hk)
          clear hsy
          go_wp2_with (go_at_call 73; refine stopAt ?_)
          unfold Hid
          refine (rfails_any x h B l recs _ _ wa hwa).mono ?_
          rintro e W3 ⟨rfl, hwb, hsB⟩
          have HS3 : Hid (Same (fun k => k ≠ x ∧ k ≠ h) w W3) := Lib.hid ((HS2.out.trans (hsA.mono fun _ _ hk => hk.2)).trans (hsB.mono fun _ _ hk => hk.1))
          have HD3 := Lib.hid (hda.keep hsB HH.out.xh.symm)
          have HW3 := Lib.hid hwb
          clear hwb hda hsA hsB hwa c0 hlt
          by_cases hx3 : x3 = 0
          case neg =>
            go_wp2
            go_ret
            rw [HZ.out, HR2.out, if_neg (by simp), if_neg (by simp), if_pos hx3]
            dsimp only
            rw [if_neg hx3]
            exact ⟨rfl, ⟨_, HW3.out, NewOwn.refl _ _⟩, HD3.out, HS3.out.mono fun k _ hk => ⟨hk.1, hk.2.1⟩⟩
          subst hx3
          have hw3 := HW3.out
          rw [WalM.fails0] at hw3
          have HW3 := Lib.hid hw3
          have c1 := hw3.row.cell 1
          have c2 := hw3.row.cell 2
          have c3 := hw3.row.cell 3
          have z1 := hw3.row.frozen 1
          have z2 := hw3.row.frozen 2
          have z3 := hw3.row.frozen 3
          have hlt := hw3.row.lt
          simp at c1 c2 c3
          clear hw3
          have HRS := Lib.hid (HU.out.keep (HS3.out.mono fun k _ hk => hSx.out k hk))
          go_wp2
          have hal0 : Same (fun _ => True) W3 (W3.alloc (.cells #[] 9)).drew := ((Same.refl _ _).alloc _).drew
          have hown0 : ((W3.alloc (.cells #[] 9)).drew).ownsRow W3.heap.size 9 1 (.slice (some ⟨W3.heap.size, 0, none⟩) 0 0) 0 [] :=
            own_keepAll ((Row.new W3 9 []).owns (base := W3.heap.size) (size := 1) (n := 0) (cap := 0) (Nat.le_refl _) (by simp) (Nat.le_refl _) (by simp [maxLen])) ((Same.refl _ _).drew)
          have hsln : Sl (W3.alloc (.cells #[] 9)).drew S 1 A N (rs.map strV) := by
            obtain ⟨An', cn', ee, -, -, hsln⟩ := HRS.out.keep (hal0.mono fun _ _ _ => trivial)
            injection ee with ee1 ee2 ee3
            subst ee1
            rw [← HN.out] at hsln
            exact hsln
          obtain ⟨v9, wT, hrun, hx110, hsT0⟩ := run_appLE TSt _ 38 W3.heap.size _ hown0 S A N c (rs.map strV) hsln (by simp only [maxLen]; omega) (by omega) (by simp)
          rw [heldApp_eq] at hrun
          have hsT := hal0.trans hsT0
          clear hal0 hown0 hsln hsT0
          obtain ⟨A9, c9, rfl, -, -⟩ := own_cap hx110
          have HO9 : Hid (OwnS wT W3.heap.size (.slice A9 N c9) rs) := Lib.hid (by unfold OwnS; rw [← HN.out]; exact hx110)
          have hT := HW3.out.row.keep hsT trivial
          have q1 := hT.cell 1
          have q2 := hT.cell 2
          have q3 := hT.cell 3
          have z1 := hT.frozen 1
          have z2 := hT.frozen 2
          have z3 := hT.frozen 3
          have hlt := hT.lt
          have HT := Lib.hid hT
          have HST := Lib.hid hsT
          simp at q1 q2 q3
          clear hT hx110 hsT
          go_region
          go_wp2
          go_ret
          have hs9 : Same (fun k => k ≠ x) wT (((wT.setCell ⟨x, 1, none⟩ (.int .i64 1)).setCell ⟨x, 2, none⟩ (.int .u64 G)).setCell ⟨x, 3, none⟩ (.slice A9 N c9)) := (((Same.refl _ _).setCell (fun _ h => h rfl) _).setCell (fun _ h => h rfl) _).setCell (fun _ h => h rfl) _
          have hxw : x < w.heap.size := HH.out.row.lt
          have hz3 := HS3.out.size
          rw [HZ.out, HR2.out, if_neg (by simp), if_neg (by simp), if_neg (by simp)]
          dsimp only
          rw [if_pos rfl]
          have hown9 : OwnS (((wT.setCell ⟨x, 1, none⟩ (.int .i64 1)).setCell ⟨x, 2, none⟩ (.int .u64 G)).setCell ⟨x, 3, none⟩ (.slice A9 N c9)) W3.heap.size (.slice A9 N c9) rs := own_keep HO9.out hs9 (fun k hk => by have := own_ge HO9.out hk.symm; omega)
          refine ⟨rfl, ⟨_, ⟨((HT.out.set_ 1 (.int .i64 1)).set_ 2 (.int .u64 G)).set_ 3 (.slice A9 N c9), own_lower hown9 (by omega), HH.out.xh⟩, fun k hk => Or.inr ?_⟩, (HD3.out.keep HST.out trivial).keep hs9 HH.out.xh.symm, ?_⟩
          · have := own_ge hown9 hk.symm; omega
          · exact ((HS3.out.mono fun k _ hk => ⟨hk.1, hk.2.1⟩).trans (HST.out.mono fun _ _ _ => trivial)).trans (hs9.mono fun k _ hk => hk.1)
      · intro vs wR hvl hvp hsR
        rcases vs with _ | ⟨z1, _ | ⟨z2, _ | ⟨z3, _ | ⟨z4, _ | ⟨z5, _ | ⟨z6, _ | ⟨z7, _ | ⟨zz, zr⟩⟩⟩⟩⟩⟩⟩⟩
        rotate_right 1
        · simp at hvl
        · simp at hvl
        · simp at hvl
        · simp at hvl
        · simp at hvl
        · simp at hvl
        · simp at hvl
        · simp at hvl
        · obtain rfl : z1 = (ptr x) := hvp 0 (by omega)
          obtain rfl : z2 = (ptr x) := hvp 1 (by omega)
          obtain rfl : z3 = (.pointer (some ⟨x, 0, none⟩)) := hvp 2 (by omega)
          obtain rfl : z4 = (ptr h) := hvp 3 (by omega)
          obtain rfl : z5 = (.int .i64 1) := hvp 4 (by omega)
          obtain rfl : z6 = (.slice A8 LF n8) := hvp 5 (by omega)
          obtain rfl : z7 = (.string (str (fileW G rs))) := hvp 6 (by omega)
          clear hvl hvp
          simp only [putAll, Act.put, List.setIfInBounds_toArray, List.set_cons_succ, List.set_cons_zero, List.take_succ_cons, List.take_zero, List.drop_succ_cons, List.drop_zero, List.eraseIdx_cons_succ, List.eraseIdx_cons_zero]
          go_wp2_with (go_at_call 50; refine stopAt ?_)
          unfold Hid
          have hd8 := HR8.out.keep hsR trivial
          have happ := rappend_any h d1 1 (fileW G rs) wR hd8 HF1.out (by have h1 := hb1; have h2 := HFL.out; rw [h1]; simp; omega)
          rw [HX2.out] at happ
          refine happ.mono ?_
          rintro e wa ⟨rfl, hda, hsA⟩
          have hwa : RefWal wa x h B l recs (.slice Av recs.length cv) := (HW8.out.keepAll hsR).keep hsA HW8.out.xh (fun k hk e => by subst e; exact hne.out.2 hk)
          clear happ
          go_wp2_with (go_at_call 73; refine stopAt ?_)
          unfold Hid
          refine (rfails_any x h B l recs _ _ wa hwa).mono ?_
          rintro e W2 ⟨rfl, hwb, hsB⟩
          have HS2 : Hid (Same (fun k => k ≠ x ∧ k ≠ h) w W2) := Lib.hid (((HS8.out.trans (hsR.mono fun _ _ _ => trivial)).trans (hsA.mono fun _ _ hk => hk.2)).trans (hsB.mono fun _ _ hk => hk.1))
          have HD2 := Lib.hid (hda.keep hsB HH.out.xh.symm)
          have HW2 := Lib.hid hwb
          clear hwb hda hsA hsB hwa hd8 c0 hlt hsR
          by_cases hx2 : x2 = 0
          case neg =>
            go_wp2
            go_ret
            rw [HZ.out, HR2.out, if_neg (by simp), if_pos hx2]
            dsimp only
            rw [if_neg hx2]
            exact ⟨rfl, ⟨_, HW2.out, NewOwn.refl _ _⟩, HD2.out, HS2.out.mono fun k _ hk => ⟨hk.1, hk.2.1⟩⟩
          subst hx2
          have hw2 := HW2.out
          rw [WalM.fails0] at hw2
          have HW2 := Lib.hid hw2
          have c0 := hw2.row.cell 0
          have hlt := hw2.row.lt
          simp at c0
          clear hw2
          go_wp2_with (go_at_call 74; refine stopAt ?_)
          unfold Hid
          have hsy := rsync_any h d2 1 W2 HD2.out HF2.out
          rw [HX3.out] at hsy
          refine hsy.mono ?_
          rintro e wa ⟨rfl, hda, hsA⟩
          have hwa : RefWal wa x h B l recs (.slice Av recs.length cv) := HW2.out.keep hsA HH.out.xh (fun k hk e => by subst e; exact hne.out.2 hk)
          clear hsy
          go_wp2_with (go_at_call 73; refine stopAt ?_)
          unfold Hid
          refine (rfails_any x h B l recs _ _ wa hwa).mono ?_
          rintro e W3 ⟨rfl, hwb, hsB⟩
          have HS3 : Hid (Same (fun k => k ≠ x ∧ k ≠ h) w W3) := Lib.hid ((HS2.out.trans (hsA.mono fun _ _ hk => hk.2)).trans (hsB.mono fun _ _ hk => hk.1))
          have HD3 := Lib.hid (hda.keep hsB HH.out.xh.symm)
          have HW3 := Lib.hid hwb
          clear hwb hda hsA hsB hwa c0 hlt
          by_cases hx3 : x3 = 0
          case neg =>
            go_wp2
            go_ret
            rw [HZ.out, HR2.out, if_neg (by simp), if_neg (by simp), if_pos hx3]
            dsimp only
            rw [if_neg hx3]
            exact ⟨rfl, ⟨_, HW3.out, NewOwn.refl _ _⟩, HD3.out, HS3.out.mono fun k _ hk => ⟨hk.1, hk.2.1⟩⟩
          subst hx3
          have hw3 := HW3.out
          rw [WalM.fails0] at hw3
          have HW3 := Lib.hid hw3
          have c1 := hw3.row.cell 1
          have c2 := hw3.row.cell 2
          have c3 := hw3.row.cell 3
          have z1 := hw3.row.frozen 1
          have z2 := hw3.row.frozen 2
          have z3 := hw3.row.frozen 3
          have hlt := hw3.row.lt
          simp at c1 c2 c3
          clear hw3
          have HRS := Lib.hid (HU.out.keep (HS3.out.mono fun k _ hk => hSx.out k hk))
          go_wp2
          have hal0 : Same (fun _ => True) W3 (W3.alloc (.cells #[] 9)).drew := ((Same.refl _ _).alloc _).drew
          have hown0 : ((W3.alloc (.cells #[] 9)).drew).ownsRow W3.heap.size 9 1 (.slice (some ⟨W3.heap.size, 0, none⟩) 0 0) 0 [] :=
            own_keepAll ((Row.new W3 9 []).owns (base := W3.heap.size) (size := 1) (n := 0) (cap := 0) (Nat.le_refl _) (by simp) (Nat.le_refl _) (by simp [maxLen])) ((Same.refl _ _).drew)
          have hsln : Sl (W3.alloc (.cells #[] 9)).drew S 1 A N (rs.map strV) := by
            obtain ⟨An', cn', ee, -, -, hsln⟩ := HRS.out.keep (hal0.mono fun _ _ _ => trivial)
            injection ee with ee1 ee2 ee3
            subst ee1
            rw [← HN.out] at hsln
            exact hsln
          obtain ⟨v9, wT, hrun, hx110, hsT0⟩ := run_appLE TSt _ 38 W3.heap.size _ hown0 S A N c (rs.map strV) hsln (by simp only [maxLen]; omega) (by omega) (by simp)
          rw [heldApp_eq] at hrun
          have hsT := hal0.trans hsT0
          clear hal0 hown0 hsln hsT0
          obtain ⟨A9, c9, rfl, -, -⟩ := own_cap hx110
          have HO9 : Hid (OwnS wT W3.heap.size (.slice A9 N c9) rs) := Lib.hid (by unfold OwnS; rw [← HN.out]; exact hx110)
          have hT := HW3.out.row.keep hsT trivial
          have q1 := hT.cell 1
          have q2 := hT.cell 2
          have q3 := hT.cell 3
          have z1 := hT.frozen 1
          have z2 := hT.frozen 2
          have z3 := hT.frozen 3
          have hlt := hT.lt
          have HT := Lib.hid hT
          have HST := Lib.hid hsT
          simp at q1 q2 q3
          clear hT hx110 hsT
          go_region
          go_wp2
          go_ret
          have hs9 : Same (fun k => k ≠ x) wT (((wT.setCell ⟨x, 1, none⟩ (.int .i64 1)).setCell ⟨x, 2, none⟩ (.int .u64 G)).setCell ⟨x, 3, none⟩ (.slice A9 N c9)) := (((Same.refl _ _).setCell (fun _ h => h rfl) _).setCell (fun _ h => h rfl) _).setCell (fun _ h => h rfl) _
          have hxw : x < w.heap.size := HH.out.row.lt
          have hz3 := HS3.out.size
          rw [HZ.out, HR2.out, if_neg (by simp), if_neg (by simp), if_neg (by simp)]
          dsimp only
          rw [if_pos rfl]
          have hown9 : OwnS (((wT.setCell ⟨x, 1, none⟩ (.int .i64 1)).setCell ⟨x, 2, none⟩ (.int .u64 G)).setCell ⟨x, 3, none⟩ (.slice A9 N c9)) W3.heap.size (.slice A9 N c9) rs := own_keep HO9.out hs9 (fun k hk => by have := own_ge HO9.out hk.symm; omega)
          refine ⟨rfl, ⟨_, ⟨((HT.out.set_ 1 (.int .i64 1)).set_ 2 (.int .u64 G)).set_ 3 (.slice A9 N c9), own_lower hown9 (by omega), HH.out.xh⟩, fun k hk => Or.inr ?_⟩, (HD3.out.keep HST.out trivial).keep hs9 HH.out.xh.symm, ?_⟩
          · have := own_ge hown9 hk.symm; omega
          · exact ((HS3.out.mono fun k _ hk => ⟨hk.1, hk.2.1⟩).trans (HST.out.mono fun _ _ _ => trivial)).trans (hs9.mono fun k _ hk => hk.1)
set_option maxRecDepth 100000 in
set_option maxHeartbeats 4000000 in
theorem rrew0 (x h B : Nat) (S : Nat → Prop) (d : DiskM) (l : WalM) (recs rs : List (List UInt8)) (v u : Value) (w : World) (H : RefWal w x h B l recs v) (hr : RefAt w h d) (hd : d.Fit) (hds : d.steps + 3 < 1000000) (hB : B ≤ w.heap.size)
    (hu : RdS w S u rs) (hSx : Hid (∀ k, S k → k ≠ x ∧ k ≠ h)) (hf : (fileW 0 rs).length ≤ 19000) (hov : l.over d = false) (hg : ¬ 4611686018427387904 ≤ l.gen + 1) (hfb : (l.f == 0) = false) :
    Calls Try.prog 57 #[ptr x, u] w (XPost x h B v w (rewriteW d l rs).1 (rewriteW d l rs).2.1 (rewriteW d l rs).2.2 (if (rewriteW d l rs).1 = 0 then rs else recs)) := by
  have hr9 : Hid (∀ r ∈ rs, r.length ≤ 19000) := Lib.hid fun r hr => by have := mem_flat_le hr; rw [fileW_len] at hf; omega
  have hN9 : rs.length ≤ 2200 := by rw [fileW_len] at hf; omega
  have hmy := rwmay_any x h B S d l recs rs v u w H hr hu hr9 (by omega)
  rw [if_neg (by simp [hov])] at hmy
  have hne := Lib.hid (H.own_ne hr)
  have HH := Lib.hid H
  have HR := Lib.hid hr
  have HU := Lib.hid hu
  have kc := conv_const
  obtain ⟨A, c, rfl, hc, hm, -⟩ := id hu
  obtain ⟨Av, cv, rfl, -, -⟩ := H.own.form
  obtain ⟨R, hR⟩ : ∃ R, R = rewriteW d l rs := ⟨_, rfl⟩
  rw [← hR]
  have HRR := Lib.hid hR
  obtain ⟨Z, hZ⟩ : ∃ Z, Z = if R.1 = 0 then rs else recs := ⟨_, rfl⟩
  rw [← hZ]
  have HZ := Lib.hid hZ
  clear hZ hR H hr hu
  obtain ⟨G, hG⟩ : ∃ G, G = l.gen + 1 := ⟨_, rfl⟩
  have hwr : IntKind.u64.wrap ((l.gen : Int) + 1) = (G : Int) := by simp [IntKind.wrap, IntKind.bits, IntKind.signed]; omega
  have hgd : decide ((4611686018427387904 : Int) ≤ (G : Int)) = false := decide_eq_false (by omega)
  have hG64 : G < 2 ^ (8 * 8) := by omega
  have heig := Lib.hid (fun W => refeight_any G W hG64)
  have hot : l.other = 0 := by unfold WalM.other; simp at hfb; simp [hfb]
  obtain ⟨⟨x1, d1⟩, hX1⟩ : ∃ X, X = d.clear 0 := ⟨_, rfl⟩
  obtain ⟨⟨x2, d2⟩, hX2⟩ : ∃ X, X = d1.append 0 (fileW G rs) := ⟨_, rfl⟩
  obtain ⟨⟨x3, d3⟩, hX3⟩ : ∃ X, X = d2.sync 0 := ⟨_, rfl⟩
  have HR2 : Hid (R = if x1 ≠ 0 then (x1, d1, l.fails x1) else if x2 ≠ 0 then (x2, d2, l.fails x2) else if x3 ≠ 0 then (x3, d3, l.fails x3) else (0, d3, { l with f := 0, gen := G, count := rs.length, bytes := (fileW G rs).length })) := Lib.hid (by
    rw [HRR.out]; unfold rewriteW
    rw [if_neg (by simp [hov]), if_neg hg, hot, ← hG, ← hX1]
    dsimp only
    rw [← hX2]
    dsimp only
    rw [← hX3])
  have fit1 := DiskM.clear_fit hd 0 (by omega)
  rw [← hX1] at fit1
  have fit2 := DiskM.append_fit fit1.1 0 (fileW G rs) (by have := fit1.2.1; omega)
  rw [← hX2] at fit2
  have hb1 : x1 = 0 → (d1.file 0).b = [] := fun h => by
    have := DiskM.clear_file (d := d) (f := 0) (by simp) (by rw [← hX1]; exact h)
    rw [← hX1] at this
    rw [this]
  have hfl : (fileW G rs).length ≤ 19000 := by rw [fileW_len] at hf ⊢; exact hf
  have HFL := Lib.hid hfl
  have HB1 := Lib.hid hb1
  have HF1 := Lib.hid fit1.1
  have HF2 := Lib.hid fit2.1
  have HX1 := Lib.hid hX1.symm
  have HX2 := Lib.hid hX2.symm
  have HX3 := Lib.hid hX3.symm
  clear hX1 hX2 hX3 hG hb1 fit1 fit2 HRR hf hfl hot hov hg hG64
  obtain ⟨N, hN⟩ : ∃ N, N = rs.length := ⟨_, rfl⟩
  rw [← hN] at hc hN9 hmy ⊢
  have hU := HU.out
  rw [← hN] at hU
  have HU := Lib.hid hU
  have HN := Lib.hid hN
  clear hN hU
  unfold maxLen at hm
  go_enter Try.func57, Try.ntmps57
  go_wp2_with (first | (go_at_call 72; refine hmy.mono ?_; rintro e w1 ⟨rfl, hs1⟩; have hrw := (HH.out.keepAll hs1).row; have c0 := hrw.cell 0; have c1 := hrw.cell 1; have c2 := hrw.cell 2; have hlt := hrw.lt; simp at c0 c1 c2) | (go_at_call 75; refine stopAt ?_))
  unfold Hid
  have hcl := rclear_any h d 0 w1 (HR.out.keep hs1 trivial) hd
  rw [HX1.out] at hcl
  refine hcl.mono ?_
  rintro e wa ⟨rfl, hda, hsA⟩
  have hwa : RefWal wa x h B l recs (.slice Av recs.length cv) := (HH.out.keepAll hs1).keep hsA HH.out.xh (fun k hk e => by subst e; exact hne.out.2 hk)
  clear hcl c0 c1 c2 hlt hrw hmy
  go_wp2_with (go_at_call 73; refine stopAt ?_)
  unfold Hid
  refine (rfails_any x h B l recs _ _ wa hwa).mono ?_
  rintro e W1 ⟨rfl, hwb, hsB⟩
  have HS1 : Hid (Same (fun k => k ≠ x ∧ k ≠ h) w W1) := Lib.hid (((hs1.mono fun _ _ _ => trivial).trans (hsA.mono fun _ _ hk => hk.2)).trans (hsB.mono fun _ _ hk => hk.1))
  have HD1 := Lib.hid (hda.keep hsB HH.out.xh.symm)
  have HW1 := Lib.hid hwb
  clear hwb hda hsA hsB hwa hs1
  by_cases hx1 : x1 = 0
  case neg =>
    go_wp2
    go_ret
    rw [HZ.out, HR2.out, if_pos hx1]
    dsimp only
    rw [if_neg hx1]
    exact ⟨rfl, ⟨_, HW1.out, NewOwn.refl _ _⟩, HD1.out, HS1.out.mono fun k _ hk => ⟨hk.1, hk.2.1⟩⟩
  subst hx1
  have hb1 := HB1.out rfl
  have hw1 := HW1.out
  rw [WalM.fails0] at hw1
  have HW1 := Lib.hid hw1
  have c2 := hw1.row.cell 2
  have hlt := hw1.row.lt
  simp at c2
  clear hw1
  go_wp2_with (go_at_call 37; refine stopAt ?_)
  unfold Hid
  have hsA : Same (fun _ => True) W1 (W1.alloc (.cells #[.int .u8 71] 5 (1, 2))) := (Same.refl _ _).alloc _
  refine (heig.out _).mono ?_
  rintro e w1 ⟨u1, rfl, hu1, hs1⟩
  obtain ⟨A1, c1, rfl, -, -⟩ := hu1.formN (putN_len 8 G)
  have hb71 : By w1 (fun _ => True) (.slice (some ⟨W1.heap.size, 0, none⟩) 1 1) [71] := (By.lit (n := 1) (c := 1) (fr := (1, 2)) (e := 5) (w := W1.alloc (.cells #[.int .u8 71] 5 (1, 2))) (heap_now rfl) trivial rfl (Nat.le_refl 1) (by simp [maxLen])).keepAll hs1
  have HSa := Lib.hid (hsA.trans hs1)
  clear hsA hs1 heig c2 hlt
  go_wp2_with (at_builtin; refine stopAt ?_)
  unfold Hid
  refine wpList_full rfl (.tmp 40) (.tmp 46) rfl (some ⟨W1.heap.size, 0, none⟩) 1 [71] (putN 8 G) (fun _ => True) _ A1 8 c1 rfl hb71 rfl (by have := hu1.by_; exact this) (by omega) ?_
  intro A2 c2 w2 hby2 hs2
  have hgen : [71] ++ putN 8 G = genF G := rfl
  rw [hgen] at hby2
  have hfp := rfput_any (.slice none 0 0) _ [] (genF G) (fun _ => True) _ w2 ⟨none, 0, rfl, by simp, by simp [maxLen], Sl.nil _ _ _ _⟩ hby2 (by simp) (by rw [genF_len]; omega)
  rw [List.nil_append] at hfp
  have HSb := Lib.hid (HSa.out.trans hs2)
  clear hb71 hu1 hby2 hs2 hgen
  go_wp2_with (go_at_call 36; refine hfp.mono ?_; rintro e w3 ⟨u3, rfl, hb3, hs3⟩; obtain ⟨A3, n3, rfl, -, -⟩ := hb3.formN (n := 17) (by rw [recF_len, genF_len]))
  have HSc := Lib.hid (HSb.out.trans hs3)
  have hstart : Hid (OwnB w3 W1.heap.size (.slice A3 17 n3) (recsF (genF G :: (rs.take 0).map (82 :: ·)))) := Lib.hid (by
    have := hb3.lower (B' := W1.heap.size) HSb.out.size
    simpa [recsF] using this)
  clear hfp hb3 hs3
  go_loopw [7, 9] (fun b i wr => ∃ k : Nat, k ≤ N ∧ i = .int .i64 k ∧ Hid (OwnB wr W1.heap.size b (recsF (genF G :: (rs.take k).map (82 :: ·)))) ∧ Hid (Same (fun _ => True) W1 wr)) (fun _ i _ => N - (intOf i).toNat)
  case atStart => exact ⟨0, by omega, rfl, hstart, HSc⟩
  case round =>
    obtain ⟨k, hk, rfl, HB, HS⟩ := hrel
    obtain ⟨wo, rfl⟩ : ∃ wo : World, wo = wr := ⟨_, rfl⟩
    clear hstart
    obtain ⟨LB, hLB⟩ : ∃ LB, LB = (recsF (genF G :: (rs.take k).map (82 :: ·))).length := ⟨_, rfl⟩
    obtain ⟨Ab, nb, rfl, -, -⟩ := HB.out.formN hLB.symm
    have HLB := Lib.hid hLB
    have hLBb : LB ≤ 20000 := by rw [hLB]; exact Nat.le_trans (Nat.le_trans (part_le G rs k) HFL.out) (by omega)
    clear hLB
    by_cases hkN : k < N
    · have hkr : k < rs.length := by rw [← HN.out]; exact hkN
      obtain ⟨ad, rfl, hck⟩ := ((HU.out.keep (HS1.out.mono fun k _ hk => hSx.out k hk)).keep (HS.out.mono fun _ _ _ => trivial)).at_ hkr
      have hlk := hr9.out _ (List.getElem_mem hkr)
      have hpl := Lib.hid (take_map_snoc rs hkr G)
      generalize rs[k] = r at hck hlk hpl
      have hadd := add_R r (by omega)
      have hltad := World.block_lt_of_cell? wo _ hck
      go_wp2_with (with_reducible refine stopConv rfl ?_)
      unfold Hid
      refine wpList_bytes rfl rfl Try.underlying9 Try.underlying24 Try.underlying5 (str (82 :: r)) rfl (by rw [str_size]; simp only [maxLen, List.length_cons]; omega) ?_
      intro w5 cc q more hrow hq hcc hmm hS5 hsz
      have hbs : (str (82 :: r)).size = (82 :: r).length := str_size _
      rw [hbs] at hq hcc ⊢
      have hby := hrow.by_ (bl_len (str (82 :: r))) (by rw [hbs]; exact hcc) hmm
      rw [bl_str, hbs] at hby
      have hfp := rfput_any _ _ (recsF (genF G :: (rs.take k).map (82 :: ·))) (82 :: r) _ _ w5 (HB.out.keepAll hS5).by_ hby (by rw [← HLB.out]; omega) (by simp; omega)
      rw [← hpl.out] at hfp
      have HS5 := Lib.hid (HS.out.trans hS5)
      obtain ⟨M6, hM6⟩ : ∃ M6, M6 = (recsF (genF G :: (rs.take (k + 1)).map (82 :: ·))).length := ⟨_, rfl⟩
      have HM6 := Lib.hid hM6.symm
      clear hby hrow hck hM6 hadd hS5 hsz hq hcc hmm hbs
      go_wp2_with (go_at_call 36; refine hfp.mono ?_; rintro e w6 ⟨u6, rfl, hb6, hs6⟩; obtain ⟨A6, n6, rfl, -, -⟩ := hb6.formN HM6.out)
      have HO6 := Lib.hid (hb6.lower (B' := W1.heap.size) HS5.out.size)
      have HS6 := Lib.hid (HS5.out.trans hs6)
      clear hfp hb6 hs6
      go_wp2
      go_roundw
      case rel => exact ⟨k + 1, by omega, by go_num, HO6, HS6⟩
      case measure => simp [intOf]; omega
    · obtain rfl : N = k := by omega
      clear hk hkN
      have htk : rs.take N = rs := List.take_of_length_le (by rw [HN.out]; exact Nat.le_refl _)
      rw [htk] at HB HLB
      clear htk
      have hsE : Same (fun _ => True) wo (wo.alloc (.cells #[.int .u8 69] 5 (1, 2))) := (Same.refl _ _).alloc _
      have hb69 : By (wo.alloc (.cells #[.int .u8 69] 5 (1, 2))) (fun _ => True) (.slice (some ⟨wo.heap.size, 0, none⟩) 1 1) [69] := By.lit (n := 1) (c := 1) (fr := (1, 2)) (e := 5) (heap_now rfl) trivial rfl (Nat.le_refl 1) (by simp [maxLen])
      have hfp := rfput_any _ _ (recsF (genF G :: rs.map (82 :: ·))) [69] _ _ _ (HB.out.keepAll hsE).by_ hb69 (by rw [← HLB.out]; omega) (by simp)
      rw [← fileW_split] at hfp
      have HSE := Lib.hid (HS.out.trans hsE)
      obtain ⟨LF, hLF⟩ : ∃ LF, LF = (fileW G rs).length := ⟨_, rfl⟩
      have HLF := Lib.hid hLF
      have hLFb : LF ≤ 20000 := by rw [hLF]; exact Nat.le_trans HFL.out (by omega)
      clear hsE hb69 hLF
      go_wp2_with (go_at_call 36; refine hfp.mono ?_; rintro e w8 ⟨u8, rfl, hb8, hs8⟩; obtain ⟨A8, n8, rfl, -, -⟩ := hb8.formN HLF.out.symm)
      have hs18 := HSE.out.trans hs8
      have HB8 := Lib.hid hb8
      have HS8 : Hid (Same (fun k => k ≠ x ∧ k ≠ h) w w8) := Lib.hid (HS1.out.trans (hs18.mono fun _ _ _ => trivial))
      have HW8 := Lib.hid (HW1.out.keepAll hs18)
      have HR8 := Lib.hid (HD1.out.keep hs18 trivial)
      have c0 := HW8.out.row.cell 0
      have hlt := HW8.out.row.lt
      simp at c0
      clear hb8 hs8 hs18 hfp
      refine wp_region_tail_d (L := [.eq (ptr x), .eq (ptr x), .eq (ptr x), .eq (.pointer (some ⟨x, 0, none⟩)), .eq (ptr h), .eq (.int .i64 0), .eq (.slice A8 LF n8), .eq (.string (str (fileW G rs)))]) 8 0 (by omega) (by kernel_rfl) (by kernel_rfl) rfl rfl rfl rfl rfl rfl ?_ ?_ ?_
      · refine ⟨?_, ?_, ?_, ?_, ?_, ?_, ?_, ?_, trivial⟩
        · intro ac wc hs hd hz hf hw K hK
          have e0 : ac.eval (.tmp 0) = (ptr x) := hf 0 rfl
          clear hd hz hf hw
          simp only [Region.wanted, if_true, Oper.wp, execOp, resolve, List.map_toArray, List.map_cons, List.map_nil, Option.map_some, Option.map_none, e0]
          go_simp
          exact hK _ _ rfl (Same.refl _ _)
        · intro ac wc hs hd hz hf hw K hK
          have e0 : ac.eval (.tmp 0) = (ptr x) := hf 0 rfl
          clear hd hz hf hw
          simp only [Region.wanted, if_true, Oper.wp, execOp, resolve, List.map_toArray, List.map_cons, List.map_nil, Option.map_some, Option.map_none, e0]
          go_simp
          exact hK _ _ rfl (Same.refl _ _)
        · intro ac wc hs hd hz hf hw K hK
          have e0 : ac.eval (.tmp 76) = (ptr x) := hw 1 rfl
          clear hd hz hf hw
          simp only [Region.wanted, if_true, Oper.wp, execOp, resolve, List.map_toArray, List.map_cons, List.map_nil, Option.map_some, Option.map_none, e0]
          go_simp
          exact hK _ _ rfl (Same.refl _ _)
        · intro ac wc hs hd hz hf hw K hK
          have e0 : ac.eval (.tmp 77) = (ptr x) := hw 2 rfl
          clear hd hz hf hw
          simp only [Region.wanted, if_true, Oper.wp, execOp, resolve, List.map_toArray, List.map_cons, List.map_nil, Option.map_some, Option.map_none, e0]
          go_simp
          exact hK _ _ rfl (Same.refl _ _)
        · intro ac wc hs hd hz hf hw K hK
          have e0 : ac.eval (.tmp 78) = (.pointer (some ⟨x, 0, none⟩)) := hw 3 rfl
          have m0 : wc.cell? ⟨x, 0, none⟩ = some (ptr h) := hs.cell (p := ⟨x, 0, none⟩) trivial c0
          clear hd hz hf hw
          simp only [Region.wanted, if_true, Oper.wp, execOp, resolve, List.map_toArray, List.map_cons, List.map_nil, Option.map_some, Option.map_none, e0]
          go_simp
          exact hK _ _ rfl (Same.refl _ _)
        · intro ac wc hs hd hz hf hw K hK
          have e0 : ac.eval (.tmp 6) = (.int .i64 0) := hf 6 rfl
          clear hd hz hf hw
          simp only [Region.wanted, if_true, Oper.wp, execOp, resolve, List.map_toArray, List.map_cons, List.map_nil, Option.map_some, Option.map_none, e0]
          go_simp
          exact hK _ _ rfl (Same.refl _ _)
        · intro ac wc hs hd hz hf hw K hK
          have e0 : ac.eval (.tmp 7) = (.slice A8 LF n8) := hf 7 rfl
          clear hd hz hf hw
          simp only [Region.wanted, if_true, Oper.wp, execOp, resolve, List.map_toArray, List.map_cons, List.map_nil, Option.map_some, Option.map_none, e0]
          go_simp
          exact hK _ _ rfl (Same.refl _ _)
        · intro ac wc hs hd hz hf hw K hK
          have e0 : ac.eval (.tmp 81) = (.slice A8 LF n8) := hw 6 rfl
          have hcv := ((HB8.out.by_).keepAll hs).conv (P := Try.prog) 24 9 5 Try.underlying24 Try.underlying5 Try.underlying9
          clear hd hz hf hw
          simp only [Region.wanted, if_true, Oper.wp, execOp, resolve, List.map_toArray, List.map_cons, List.map_nil, Option.map_some, Option.map_none, e0]
          go_simp
          exact hK _ _ rfl (Same.refl _ _)
      · intro vs wR hvl hvp hsR
        rcases vs with _ | ⟨z0, _ | ⟨z1, _ | ⟨z2, _ | ⟨z3, _ | ⟨z4, _ | ⟨z5, _ | ⟨z6, _ | ⟨z7, _ | ⟨zz, zr⟩⟩⟩⟩⟩⟩⟩⟩⟩
        rotate_right 1
        · simp at hvl
        · simp at hvl
        · simp at hvl
        · simp at hvl
        · simp at hvl
        · simp at hvl
        · simp at hvl
        · simp at hvl
        · simp at hvl
        · obtain rfl : z0 = (ptr x) := hvp 0 (by omega)
          obtain rfl : z1 = (ptr x) := hvp 1 (by omega)
          obtain rfl : z2 = (ptr x) := hvp 2 (by omega)
          obtain rfl : z3 = (.pointer (some ⟨x, 0, none⟩)) := hvp 3 (by omega)
          obtain rfl : z4 = (ptr h) := hvp 4 (by omega)
          obtain rfl : z5 = (.int .i64 0) := hvp 5 (by omega)
          obtain rfl : z6 = (.slice A8 LF n8) := hvp 6 (by omega)
          obtain rfl : z7 = (.string (str (fileW G rs))) := hvp 7 (by omega)
          clear hvl hvp
          simp only [putAll, Act.put, List.setIfInBounds_toArray, List.set_cons_succ, List.set_cons_zero, List.take_succ_cons, List.take_zero, List.drop_succ_cons, List.drop_zero, List.eraseIdx_cons_succ, List.eraseIdx_cons_zero]
          go_wp2_with (go_at_call 50; refine stopAt ?_)
          unfold Hid
          have hd8 := HR8.out.keep hsR trivial
          have happ := rappend_any h d1 0 (fileW G rs) wR hd8 HF1.out (by have h1 := hb1; have h2 := HFL.out; rw [h1]; simp; omega)
          rw [HX2.out] at happ
          refine happ.mono ?_
          rintro e wa ⟨rfl, hda, hsA⟩
          have hwa : RefWal wa x h B l recs (.slice Av recs.length cv) := (HW8.out.keepAll hsR).keep hsA HW8.out.xh (fun k hk e => by subst e; exact hne.out.2 hk)
          clear happ
          go_wp2_with (go_at_call 73; refine stopAt ?_)
          unfold Hid
          refine (rfails_any x h B l recs _ _ wa hwa).mono ?_
          rintro e W2 ⟨rfl, hwb, hsB⟩
          have HS2 : Hid (Same (fun k => k ≠ x ∧ k ≠ h) w W2) := Lib.hid (((HS8.out.trans (hsR.mono fun _ _ _ => trivial)).trans (hsA.mono fun _ _ hk => hk.2)).trans (hsB.mono fun _ _ hk => hk.1))
          have HD2 := Lib.hid (hda.keep hsB HH.out.xh.symm)
          have HW2 := Lib.hid hwb
          clear hwb hda hsA hsB hwa hd8 c0 hlt hsR
          by_cases hx2 : x2 = 0
          case neg =>
            go_wp2
            go_ret
            rw [HZ.out, HR2.out, if_neg (by simp), if_pos hx2]
            dsimp only
            rw [if_neg hx2]
            exact ⟨rfl, ⟨_, HW2.out, NewOwn.refl _ _⟩, HD2.out, HS2.out.mono fun k _ hk => ⟨hk.1, hk.2.1⟩⟩
          subst hx2
          have hw2 := HW2.out
          rw [WalM.fails0] at hw2
          have HW2 := Lib.hid hw2
          have c0 := hw2.row.cell 0
          have hlt := hw2.row.lt
          simp at c0
          clear hw2
          go_wp2_with (go_at_call 74; refine stopAt ?_)
          unfold Hid
          have hsy := rsync_any h d2 0 W2 HD2.out HF2.out
          rw [HX3.out] at hsy
          refine hsy.mono ?_
          rintro e wa ⟨rfl, hda, hsA⟩
          have hwa : RefWal wa x h B l recs (.slice Av recs.length cv) := HW2.out.keep hsA HH.out.xh (fun k hk e => by subst e; exact hne.out.2 hk)
          clear hsy
          go_wp2_with (go_at_call 73; refine stopAt ?_)
          unfold Hid
          refine (rfails_any x h B l recs _ _ wa hwa).mono ?_
          rintro e W3 ⟨rfl, hwb, hsB⟩
          have HS3 : Hid (Same (fun k => k ≠ x ∧ k ≠ h) w W3) := Lib.hid ((HS2.out.trans (hsA.mono fun _ _ hk => hk.2)).trans (hsB.mono fun _ _ hk => hk.1))
          have HD3 := Lib.hid (hda.keep hsB HH.out.xh.symm)
          have HW3 := Lib.hid hwb
          clear hwb hda hsA hsB hwa c0 hlt
          by_cases hx3 : x3 = 0
          case neg =>
            go_wp2
            go_ret
            rw [HZ.out, HR2.out, if_neg (by simp), if_neg (by simp), if_pos hx3]
            dsimp only
            rw [if_neg hx3]
            exact ⟨rfl, ⟨_, HW3.out, NewOwn.refl _ _⟩, HD3.out, HS3.out.mono fun k _ hk => ⟨hk.1, hk.2.1⟩⟩
          subst hx3
          have hw3 := HW3.out
          rw [WalM.fails0] at hw3
          have HW3 := Lib.hid hw3
          have c1 := hw3.row.cell 1
          have c2 := hw3.row.cell 2
          have c3 := hw3.row.cell 3
          have z1 := hw3.row.frozen 1
          have z2 := hw3.row.frozen 2
          have z3 := hw3.row.frozen 3
          have hlt := hw3.row.lt
          simp at c1 c2 c3
          clear hw3
          have HRS := Lib.hid (HU.out.keep (HS3.out.mono fun k _ hk => hSx.out k hk))
          go_wp2
          have hal0 : Same (fun _ => True) W3 (W3.alloc (.cells #[] 9)).drew := ((Same.refl _ _).alloc _).drew
          have hown0 : ((W3.alloc (.cells #[] 9)).drew).ownsRow W3.heap.size 9 1 (.slice (some ⟨W3.heap.size, 0, none⟩) 0 0) 0 [] :=
            own_keepAll ((Row.new W3 9 []).owns (base := W3.heap.size) (size := 1) (n := 0) (cap := 0) (Nat.le_refl _) (by simp) (Nat.le_refl _) (by simp [maxLen])) ((Same.refl _ _).drew)
          have hsln : Sl (W3.alloc (.cells #[] 9)).drew S 1 A N (rs.map strV) := by
            obtain ⟨An', cn', ee, -, -, hsln⟩ := HRS.out.keep (hal0.mono fun _ _ _ => trivial)
            injection ee with ee1 ee2 ee3
            subst ee1
            rw [← HN.out] at hsln
            exact hsln
          obtain ⟨v9, wT, hrun, hx110, hsT0⟩ := run_appLE TSt _ 38 W3.heap.size _ hown0 S A N c (rs.map strV) hsln (by simp only [maxLen]; omega) (by omega) (by simp)
          rw [heldApp_eq] at hrun
          have hsT := hal0.trans hsT0
          clear hal0 hown0 hsln hsT0
          obtain ⟨A9, c9, rfl, -, -⟩ := own_cap hx110
          have HO9 : Hid (OwnS wT W3.heap.size (.slice A9 N c9) rs) := Lib.hid (by unfold OwnS; rw [← HN.out]; exact hx110)
          have hT := HW3.out.row.keep hsT trivial
          have q1 := hT.cell 1
          have q2 := hT.cell 2
          have q3 := hT.cell 3
          have z1 := hT.frozen 1
          have z2 := hT.frozen 2
          have z3 := hT.frozen 3
          have hlt := hT.lt
          have HT := Lib.hid hT
          have HST := Lib.hid hsT
          simp at q1 q2 q3
          clear hT hx110 hsT
          go_region
          go_wp2
          go_ret
          have hs9 : Same (fun k => k ≠ x) wT (((wT.setCell ⟨x, 1, none⟩ (.int .i64 0)).setCell ⟨x, 2, none⟩ (.int .u64 G)).setCell ⟨x, 3, none⟩ (.slice A9 N c9)) := (((Same.refl _ _).setCell (fun _ h => h rfl) _).setCell (fun _ h => h rfl) _).setCell (fun _ h => h rfl) _
          have hxw : x < w.heap.size := HH.out.row.lt
          have hz3 := HS3.out.size
          rw [HZ.out, HR2.out, if_neg (by simp), if_neg (by simp), if_neg (by simp)]
          dsimp only
          rw [if_pos rfl]
          have hown9 : OwnS (((wT.setCell ⟨x, 1, none⟩ (.int .i64 0)).setCell ⟨x, 2, none⟩ (.int .u64 G)).setCell ⟨x, 3, none⟩ (.slice A9 N c9)) W3.heap.size (.slice A9 N c9) rs := own_keep HO9.out hs9 (fun k hk => by have := own_ge HO9.out hk.symm; omega)
          refine ⟨rfl, ⟨_, ⟨((HT.out.set_ 1 (.int .i64 0)).set_ 2 (.int .u64 G)).set_ 3 (.slice A9 N c9), own_lower hown9 (by omega), HH.out.xh⟩, fun k hk => Or.inr ?_⟩, (HD3.out.keep HST.out trivial).keep hs9 HH.out.xh.symm, ?_⟩
          · have := own_ge hown9 hk.symm; omega
          · exact ((HS3.out.mono fun k _ hk => ⟨hk.1, hk.2.1⟩).trans (HST.out.mono fun _ _ _ => trivial)).trans (hs9.mono fun k _ hk => hk.1)
      · intro vs wR hvl hvp hsR
        rcases vs with _ | ⟨z1, _ | ⟨z2, _ | ⟨z3, _ | ⟨z4, _ | ⟨z5, _ | ⟨z6, _ | ⟨z7, _ | ⟨zz, zr⟩⟩⟩⟩⟩⟩⟩⟩
        rotate_right 1
        · simp at hvl
        · simp at hvl
        · simp at hvl
        · simp at hvl
        · simp at hvl
        · simp at hvl
        · simp at hvl
        · simp at hvl
        · obtain rfl : z1 = (ptr x) := hvp 0 (by omega)
          obtain rfl : z2 = (ptr x) := hvp 1 (by omega)
          obtain rfl : z3 = (.pointer (some ⟨x, 0, none⟩)) := hvp 2 (by omega)
          obtain rfl : z4 = (ptr h) := hvp 3 (by omega)
          obtain rfl : z5 = (.int .i64 0) := hvp 4 (by omega)
          obtain rfl : z6 = (.slice A8 LF n8) := hvp 5 (by omega)
          obtain rfl : z7 = (.string (str (fileW G rs))) := hvp 6 (by omega)
          clear hvl hvp
          simp only [putAll, Act.put, List.setIfInBounds_toArray, List.set_cons_succ, List.set_cons_zero, List.take_succ_cons, List.take_zero, List.drop_succ_cons, List.drop_zero, List.eraseIdx_cons_succ, List.eraseIdx_cons_zero]
          go_wp2_with (go_at_call 50; refine stopAt ?_)
          unfold Hid
          have hd8 := HR8.out.keep hsR trivial
          have happ := rappend_any h d1 0 (fileW G rs) wR hd8 HF1.out (by have h1 := hb1; have h2 := HFL.out; rw [h1]; simp; omega)
          rw [HX2.out] at happ
          refine happ.mono ?_
          rintro e wa ⟨rfl, hda, hsA⟩
          have hwa : RefWal wa x h B l recs (.slice Av recs.length cv) := (HW8.out.keepAll hsR).keep hsA HW8.out.xh (fun k hk e => by subst e; exact hne.out.2 hk)
          clear happ
          go_wp2_with (go_at_call 73; refine stopAt ?_)
          unfold Hid
          refine (rfails_any x h B l recs _ _ wa hwa).mono ?_
          rintro e W2 ⟨rfl, hwb, hsB⟩
          have HS2 : Hid (Same (fun k => k ≠ x ∧ k ≠ h) w W2) := Lib.hid (((HS8.out.trans (hsR.mono fun _ _ _ => trivial)).trans (hsA.mono fun _ _ hk => hk.2)).trans (hsB.mono fun _ _ hk => hk.1))
          have HD2 := Lib.hid (hda.keep hsB HH.out.xh.symm)
          have HW2 := Lib.hid hwb
          clear hwb hda hsA hsB hwa hd8 c0 hlt hsR
          by_cases hx2 : x2 = 0
          case neg =>
            go_wp2
            go_ret
            rw [HZ.out, HR2.out, if_neg (by simp), if_pos hx2]
            dsimp only
            rw [if_neg hx2]
            exact ⟨rfl, ⟨_, HW2.out, NewOwn.refl _ _⟩, HD2.out, HS2.out.mono fun k _ hk => ⟨hk.1, hk.2.1⟩⟩
          subst hx2
          have hw2 := HW2.out
          rw [WalM.fails0] at hw2
          have HW2 := Lib.hid hw2
          have c0 := hw2.row.cell 0
          have hlt := hw2.row.lt
          simp at c0
          clear hw2
          go_wp2_with (go_at_call 74; refine stopAt ?_)
          unfold Hid
          have hsy := rsync_any h d2 0 W2 HD2.out HF2.out
          rw [HX3.out] at hsy
          refine hsy.mono ?_
          rintro e wa ⟨rfl, hda, hsA⟩
          have hwa : RefWal wa x h B l recs (.slice Av recs.length cv) := HW2.out.keep hsA HH.out.xh (fun k hk e => by subst e; exact hne.out.2 hk)
          clear hsy
          go_wp2_with (go_at_call 73; refine stopAt ?_)
          unfold Hid
          refine (rfails_any x h B l recs _ _ wa hwa).mono ?_
          rintro e W3 ⟨rfl, hwb, hsB⟩
          have HS3 : Hid (Same (fun k => k ≠ x ∧ k ≠ h) w W3) := Lib.hid ((HS2.out.trans (hsA.mono fun _ _ hk => hk.2)).trans (hsB.mono fun _ _ hk => hk.1))
          have HD3 := Lib.hid (hda.keep hsB HH.out.xh.symm)
          have HW3 := Lib.hid hwb
          clear hwb hda hsA hsB hwa c0 hlt
          by_cases hx3 : x3 = 0
          case neg =>
            go_wp2
            go_ret
            rw [HZ.out, HR2.out, if_neg (by simp), if_neg (by simp), if_pos hx3]
            dsimp only
            rw [if_neg hx3]
            exact ⟨rfl, ⟨_, HW3.out, NewOwn.refl _ _⟩, HD3.out, HS3.out.mono fun k _ hk => ⟨hk.1, hk.2.1⟩⟩
          subst hx3
          have hw3 := HW3.out
          rw [WalM.fails0] at hw3
          have HW3 := Lib.hid hw3
          have c1 := hw3.row.cell 1
          have c2 := hw3.row.cell 2
          have c3 := hw3.row.cell 3
          have z1 := hw3.row.frozen 1
          have z2 := hw3.row.frozen 2
          have z3 := hw3.row.frozen 3
          have hlt := hw3.row.lt
          simp at c1 c2 c3
          clear hw3
          have HRS := Lib.hid (HU.out.keep (HS3.out.mono fun k _ hk => hSx.out k hk))
          go_wp2
          have hal0 : Same (fun _ => True) W3 (W3.alloc (.cells #[] 9)).drew := ((Same.refl _ _).alloc _).drew
          have hown0 : ((W3.alloc (.cells #[] 9)).drew).ownsRow W3.heap.size 9 1 (.slice (some ⟨W3.heap.size, 0, none⟩) 0 0) 0 [] :=
            own_keepAll ((Row.new W3 9 []).owns (base := W3.heap.size) (size := 1) (n := 0) (cap := 0) (Nat.le_refl _) (by simp) (Nat.le_refl _) (by simp [maxLen])) ((Same.refl _ _).drew)
          have hsln : Sl (W3.alloc (.cells #[] 9)).drew S 1 A N (rs.map strV) := by
            obtain ⟨An', cn', ee, -, -, hsln⟩ := HRS.out.keep (hal0.mono fun _ _ _ => trivial)
            injection ee with ee1 ee2 ee3
            subst ee1
            rw [← HN.out] at hsln
            exact hsln
          obtain ⟨v9, wT, hrun, hx110, hsT0⟩ := run_appLE TSt _ 38 W3.heap.size _ hown0 S A N c (rs.map strV) hsln (by simp only [maxLen]; omega) (by omega) (by simp)
          rw [heldApp_eq] at hrun
          have hsT := hal0.trans hsT0
          clear hal0 hown0 hsln hsT0
          obtain ⟨A9, c9, rfl, -, -⟩ := own_cap hx110
          have HO9 : Hid (OwnS wT W3.heap.size (.slice A9 N c9) rs) := Lib.hid (by unfold OwnS; rw [← HN.out]; exact hx110)
          have hT := HW3.out.row.keep hsT trivial
          have q1 := hT.cell 1
          have q2 := hT.cell 2
          have q3 := hT.cell 3
          have z1 := hT.frozen 1
          have z2 := hT.frozen 2
          have z3 := hT.frozen 3
          have hlt := hT.lt
          have HT := Lib.hid hT
          have HST := Lib.hid hsT
          simp at q1 q2 q3
          clear hT hx110 hsT
          go_region
          go_wp2
          go_ret
          have hs9 : Same (fun k => k ≠ x) wT (((wT.setCell ⟨x, 1, none⟩ (.int .i64 0)).setCell ⟨x, 2, none⟩ (.int .u64 G)).setCell ⟨x, 3, none⟩ (.slice A9 N c9)) := (((Same.refl _ _).setCell (fun _ h => h rfl) _).setCell (fun _ h => h rfl) _).setCell (fun _ h => h rfl) _
          have hxw : x < w.heap.size := HH.out.row.lt
          have hz3 := HS3.out.size
          rw [HZ.out, HR2.out, if_neg (by simp), if_neg (by simp), if_neg (by simp)]
          dsimp only
          rw [if_pos rfl]
          have hown9 : OwnS (((wT.setCell ⟨x, 1, none⟩ (.int .i64 0)).setCell ⟨x, 2, none⟩ (.int .u64 G)).setCell ⟨x, 3, none⟩ (.slice A9 N c9)) W3.heap.size (.slice A9 N c9) rs := own_keep HO9.out hs9 (fun k hk => by have := own_ge HO9.out hk.symm; omega)
          refine ⟨rfl, ⟨_, ⟨((HT.out.set_ 1 (.int .i64 0)).set_ 2 (.int .u64 G)).set_ 3 (.slice A9 N c9), own_lower hown9 (by omega), HH.out.xh⟩, fun k hk => Or.inr ?_⟩, (HD3.out.keep HST.out trivial).keep hs9 HH.out.xh.symm, ?_⟩
          · have := own_ge hown9 hk.symm; omega
          · exact ((HS3.out.mono fun k _ hk => ⟨hk.1, hk.2.1⟩).trans (HST.out.mono fun _ _ _ => trivial)).trans (hs9.mono fun k _ hk => hk.1)
end Go.Proofs.Ytpjinngngbifoaa
