/-
  Words, plain models, laws and walks that the claims of this layer share (joined by shake.py). No condition.
-/
import Derived.Deep.QuietTactic
import Derived.BigQuiet
import Derived.StillTailTactics
import Derived.Deep.RegionHeld3
import Derived.Test.YtpjinngngbifoaaU1
import Derived.Test.YtpjinngngbifoaaU2
import Derived.Test.YtpjinngngbifoaaU3
import Derived.Test.YtpjinngngbifoaaU4
import Derived.Test.YtpjinngngbifoaaU5
import Derived.Test.YtpjinngngbifoaaU6
import Derived.Test.YtpjinngngbifoaaU7
import Derived.Test.YtpjinngngbifoaaU8
import Derived.Test.YtpjinngngbifoaaU9
import Derived.Test.YtpjinngngbifoaaU10
import Derived.Test.YtpjinngngbifoaaU11
import Derived.Test.YtpjinngngbifoaaU12
import Derived.Test.YtpjinngngbifoaaU13
import Derived.Test.YtpjinngngbifoaaU14
import Derived.Test.YtpjinngngbifoaaU15
import Derived.Test.YtpjinngngbifoaaU16
import Derived.Test.YtpjinngngbifoaaU17
import Derived.Test.YtpjinngngbifoaaU18
import Derived.Test.YtpjinngngbifoaaU19
set_option linter.unusedSimpArgs false
set_option linter.unusedVariables false
namespace Go.Proofs.Ytpjinngngbifoaa
open Go.RowKit
abbrev strV (b : List UInt8) : Value := .string (str b)
theorem TSt : SlT Try.prog 38 9 1 16 (.string ⟨#[]⟩) := ⟨by kernel_rfl, by kernel_rfl, rfl, by omega⟩
/-- A slice of strings that reads as these texts. -/
def RdS (w : World) (S : Nat → Prop) (v : Value) (ss : List (List UInt8)) : Prop :=
  ∃ A c, v = .slice A ss.length c ∧ ss.length ≤ c ∧ c ≤ maxLen ∧ Sl w S 1 A ss.length (ss.map strV)
theorem RdS.keep {w w' : World} {S : Nat → Prop} {v : Value} {ss : List (List UInt8)} (h : RdS w S v ss) (hs : Same S w w') : RdS w' S v ss := by
  obtain ⟨A, c, rfl, h1, h2, h3⟩ := h
  exact ⟨A, c, rfl, h1, h2, h3.keep hs⟩
theorem RdS.mono {w : World} {S S' : Nat → Prop} {v : Value} {ss : List (List UInt8)} (h : RdS w S v ss) (hs : ∀ k, k < w.heap.size → S k → S' k) : RdS w S' v ss := by
  obtain ⟨A, c, rfl, h1, h2, h3⟩ := h
  exact ⟨A, c, rfl, h1, h2, h3.mono hs⟩
/-- A slice of strings that the call owns. -/
def OwnS (w : World) (B : Nat) (v : Value) (ss : List (List UInt8)) : Prop := w.ownsRow B 9 1 v ss.length (ss.map strV)
theorem OwnS.nil (w : World) (B : Nat) : OwnS w B (.slice none 0 0) [] := World.ownsRow_nil _ _ _ _
theorem OwnS.form {w : World} {B : Nat} {v : Value} {ss : List (List UInt8)} (h : OwnS w B v ss) : ∃ A c, v = .slice A ss.length c ∧ ss.length ≤ c ∧ c ≤ maxLen := own_cap h
theorem OwnS.keepAll {w w' : World} {B : Nat} {v : Value} {ss : List (List UInt8)} (h : OwnS w B v ss) (hs : Same (fun _ => True) w w') : OwnS w' B v ss := own_keepAll h hs
theorem OwnS.keep {w w' : World} {S : Nat → Prop} {B : Nat} {v : Value} {ss : List (List UInt8)} (h : OwnS w B v ss) (hs : Same S w w') (hS : ∀ k, B ≤ k → k < w.heap.size → S k) : OwnS w' B v ss :=
  own_keep h hs fun k hk => hS k (own_ge h hk.symm) (h.lt k hk).2
theorem OwnS.rd {w : World} {B : Nat} {v : Value} {ss : List (List UInt8)} (h : OwnS w B v ss) : RdS w (fun k => B ≤ k) v ss := by
  obtain ⟨A, c, rfl, h1, h2⟩ := h.form
  exact ⟨A, c, rfl, h1, h2, (Sl.of_own h).mono fun k _ hk => own_ge h hk⟩
theorem OwnS.lower {w : World} {B B' : Nat} {v : Value} {ss : List (List UInt8)} (h : OwnS w B v ss) (hb : B' ≤ B) : OwnS w B' v ss := own_lower h hb
def TextsPost (l : List (List UInt8)) (w : World) (e : Ending) (w' : World) : Prop := ∃ u, e = .returned u ∧ OwnS w' w.heap.size u l ∧ Same (fun _ => True) w w'
set_option maxRecDepth 100000 in
set_option maxHeartbeats 1000000 in
theorem texts_any (v : Value) (l : List (List UInt8)) (S : Nat → Prop) (w : World) (hv : ByL w S v l) (hl : l.length ≤ 100000) :
    Calls Try.prog 17 #[v] w (TextsPost l w) := by
  obtain ⟨A, c, vs, rfl, hc, hm, -, -⟩ := id hv
  have HV := Lib.hid hv
  clear hv
  obtain ⟨N, hN⟩ : ∃ N, N = l.length := ⟨_, rfl⟩
  rw [← hN] at hc hl ⊢
  have HN := Lib.hid hN
  clear hN
  unfold maxLen at hm
  have H0 := Lib.hid (OwnS.nil w w.heap.size)
  go_enter Try.func17, Try.ntmps17
  go_wp2
  go_loopw [3, 4] (fun u i wr => ∃ k : Nat, k ≤ N ∧ i = .int .i64 k ∧ Hid (OwnS wr w.heap.size u (l.take k)) ∧ Hid (Same (fun _ => True) w wr)) (fun _ i _ => N - (intOf i).toNat)
  case atStart => exact ⟨0, by omega, rfl, by simpa using H0, Lib.hid (Same.refl _ _)⟩
  case round =>
    obtain ⟨k, hk, rfl, HO, HS⟩ := hrel
    obtain ⟨wo, rfl⟩ : ∃ wo : World, wo = wr := ⟨_, rfl⟩
    clear H0
    have hlk : (l.take k).length = k := by rw [List.length_take, ← HN.out]; omega
    obtain ⟨Ao, co, rfl, hco, hmo⟩ := own_cap HO.out
    rw [hlk] at HO ⊢
    clear hlk
    by_cases hkN : k < N
    · have hkr : k < l.length := by rw [← HN.out]; exact hkN
      have htk : Hid (l.take (k + 1) = l.take k ++ [l[k]]) := Lib.hid (List.take_succ_eq_append_getElem hkr)
      obtain ⟨ad, Ar, cr, rfl, -, hck, hbr⟩ := (HV.out.keep (HS.out.mono fun _ _ _ => trivial)).at_ hkr
      generalize l[k] = x at hck hbr htk
      obtain ⟨L, hL⟩ : ∃ L, L = x.length := ⟨_, rfl⟩
      have hcv := conv_by hbr
      rw [← hL] at hck hcv
      have HL := Lib.hid hL
      have HCV := Lib.hid hcv
      clear hL hbr hcv
      go_wp2_with (with_reducible refine stopConv rfl ?_)
      unfold Hid
      refine wpList_conv rfl rfl rfl HCV.out ?_
      go_wp2_with (at_builtin; refine stopAt ?_)
      unfold Hid
      have hsB : Same (fun _ => True) wo (wo.alloc (.cells #[strV x] 9)) := (Same.refl _ _).alloc _
      have hown := HO.out.keepAll hsB
      refine wpList_app TSt _ rfl (.tmp 11) (.tmp 17) rfl w.heap.size _ k ((l.take k).map strV) rfl (by have := hown; unfold OwnS at this; rwa [show (l.take k).length = k by rw [List.length_take, ← HN.out]; omega] at this) (fun _ => True) (some ⟨wo.heap.size, 0, none⟩) 1 1 [strV x] rfl (sl_one _ _ _ _ trivial) (by simp [Value.oneCell']) (by simp only [maxLen]; omega) (by omega) (by have := HS.out.size; simp; omega) ?_
      intro v3 w3 hown3 hs3 hb3
      have HO3 : Hid (OwnS w3 w.heap.size v3 (l.take (k + 1))) := Lib.hid (by
        unfold OwnS
        rw [htk.out, List.map_append, List.length_append, show (l.take k).length = k by rw [List.length_take, ← HN.out]; omega]
        exact hown3)
      have HS3 : Hid (Same (fun _ => True) w w3) := Lib.hid ((HS.out.trans hsB).trans' hs3 fun q hq _ e => by have := own_ge HO.out e; omega)
      clear hown3 hs3 hb3 hown hsB hck
      go_wp2
      go_roundw
      case rel => exact ⟨k + 1, by omega, by go_num, HO3, HS3⟩
      case measure => simp [intOf]; omega
    · obtain rfl : N = k := by omega
      clear hk hkN
      go_wp2
      go_ret
      refine ⟨_, rfl, ?_, HS.out⟩
      have := HO.out
      rwa [List.take_of_length_le (by rw [← HN.out]; exact Nat.le_refl _)] at this
theorem RdS.at_ {w : World} {S : Nat → Prop} {A : Option Addr} {n c k : Nat} {ss : List (List UInt8)} (h : RdS w S (.slice A n c) ss) (hk : k < ss.length) : ∃ ad, A = some ad ∧ w.cell? (ad.add k) = some (strV ss[k]) := by
  obtain ⟨A', c', e, h1, h2, h3⟩ := h
  injection e with e1 e2 e3
  subst e1
  obtain ⟨ad, u, rfl, -, hu, hc⟩ := h3.at_ hk
  rw [List.getElem?_map, List.getElem?_eq_getElem hk] at hu
  simp at hu
  subst hu
  exact ⟨ad, rfl, hc⟩
theorem take_eq_step {α : Type} {a b : List α} {k : Nat} (h : a.take k = b.take k) (ha : k < a.length) (hb : k < b.length) (e : a[k] = b[k]) : a.take (k + 1) = b.take (k + 1) := by
  rw [List.take_succ_eq_append_getElem ha, List.take_succ_eq_append_getElem hb, h, e]
set_option maxRecDepth 100000 in
set_option maxHeartbeats 1000000 in
theorem alike_any (va vb : Value) (a b : List (List UInt8)) (S S2 : Nat → Prop) (w : World) (ha : ByL w S va a) (hb : RdS w S2 vb b) (hla : a.length ≤ 100000) (hlb : b.length ≤ 100000) :
    Calls Try.prog 16 #[va, vb] w (GrowPost (.bool (decide (a = b))) w) := by
  obtain ⟨A, c, vs, rfl, hc, hm, -, -⟩ := id ha
  obtain ⟨B, cb, rfl, hcb, hmb, -⟩ := id hb
  have HA := Lib.hid ha
  have HB := Lib.hid hb
  clear ha hb
  obtain ⟨N, hN⟩ : ∃ N, N = a.length := ⟨_, rfl⟩
  obtain ⟨M, hM⟩ : ∃ M, M = b.length := ⟨_, rfl⟩
  rw [← hN] at hc hla ⊢
  rw [← hM] at hcb hlb ⊢
  have HN := Lib.hid hN
  have HM := Lib.hid hM
  clear hN hM
  unfold maxLen at hm hmb
  obtain ⟨R, hR⟩ : ∃ R, R = decide (a = b) := ⟨_, rfl⟩
  rw [← hR]
  have HR := Lib.hid hR
  clear hR
  by_cases hNM : N = M
  case neg =>
    have hR : R = false := by
      rw [HR.out]
      exact decide_eq_false fun e => hNM (by rw [HN.out, HM.out, e])
    subst hR
    have hne : ((N : Int) != (M : Int)) = true := by simp; omega
    go_enter Try.func16, Try.ntmps16
    go_wp2
    go_ret
    exact ⟨rfl, Same.refl _ _⟩
  subst hNM
  go_enter Try.func16, Try.ntmps16
  go_wp2
  go_loopw [5] (fun i wr => ∃ k : Nat, k ≤ N ∧ i = .int .i64 k ∧ Hid (a.take k = b.take k) ∧ Hid (Same (fun _ => True) w wr)) (fun i _ => N - (intOf i).toNat)
  case atStart => exact ⟨0, by omega, rfl, Lib.hid (by simp), Lib.hid (Same.refl _ _)⟩
  case round =>
    obtain ⟨k, hk, rfl, HE, HS⟩ := hrel
    obtain ⟨wo, rfl⟩ : ∃ wo : World, wo = wr := ⟨_, rfl⟩
    by_cases hkN : k < N
    · have hka : k < a.length := by rw [← HN.out]; exact hkN
      have hkb : k < b.length := by rw [← HM.out]; exact hkN
      obtain ⟨ad, Ar, cr, rfl, -, hck, hbr⟩ := (HA.out.keep (HS.out.mono fun _ _ _ => trivial)).at_ hka
      obtain ⟨ad2, rfl, hck2⟩ := (HB.out.keep (HS.out.mono fun _ _ _ => trivial)).at_ hkb
      have hst : Hid (a[k] = b[k] → a.take (k + 1) = b.take (k + 1)) := Lib.hid (take_eq_step HE.out hka hkb)
      have hsf : Hid (¬ a[k] = b[k] → R = false) := Lib.hid fun hne => by
        rw [HR.out]
        refine decide_eq_false fun e => hne ?_
        subst e; rfl
      generalize a[k] = x at hck hbr hst hsf
      generalize b[k] = y at hck2 hst hsf
      obtain ⟨L, hL⟩ : ∃ L, L = x.length := ⟨_, rfl⟩
      have hcv := fun n => conv_by (hbr.keepAll ((Same.refl (fun _ => True) wo).drewN n) (S := S))
      rw [← hL] at hck hcv
      have HL := Lib.hid hL
      obtain ⟨s1, hs1⟩ : ∃ s, s = str x := ⟨_, rfl⟩
      obtain ⟨s2, hs2⟩ : ∃ s, s = str y := ⟨_, rfl⟩
      unfold strV at hck2
      rw [← hs1] at hcv
      rw [← hs2] at hck2
      have HS1 := Lib.hid hs1
      have HS2 := Lib.hid hs2
      clear hL hbr hs1 hs2
      have hx1 : (0 : Int) ≤ (k : Int) := by omega
      have hx2 : (k : Int) < (N : Int) := by omega
      by_cases hxy : x = y
      · have he : s1.toList = s2.toList := by rw [HS1.out, HS2.out, hxy]
        have he2 : (s1.toList == s2.toList) = true := by simp [he]
        have he3 : (s1.toList != s2.toList) = false := by simp [he]
        have HX := Lib.hid hxy
        clear hxy
        go_wp2
        go_quiet (fail)
        go_wp2
        go_roundw
        case rel => exact ⟨k + 1, by omega, by go_num, Lib.hid (hst.out HX.out), Lib.hid (HS.out.drewN _)⟩
        case measure => simp [intOf]; omega
      · have he : ¬ s1.toList = s2.toList := by rw [HS1.out, HS2.out, str_toList, str_toList]; exact hxy
        have he2 : (s1.toList == s2.toList) = false := by simp [he]
        have he3 : (s1.toList != s2.toList) = true := by simp [he]
        have hR := hsf.out hxy
        clear hxy
        subst hR
        go_wp2
        go_quiet (fail)
        go_wp2
        go_ret
        exact ⟨rfl, HS.out.drewN _⟩
    · obtain rfl : N = k := by omega
      clear hk hkN
      have hR : R = true := by
        rw [HR.out]
        have := HE.out
        rw [List.take_of_length_le (by rw [← HN.out]; exact Nat.le_refl _), List.take_of_length_le (by rw [← HM.out]; exact Nat.le_refl _)] at this
        exact decide_eq_true this
      subst hR
      go_wp2
      go_ret
      exact ⟨rfl, HS.out⟩
end Go.Proofs.Ytpjinngngbifoaa
namespace Go.Proofs.Ytpjinngngbifoaa
open Go.RowKit
set_option maxRecDepth 100000 in
set_option maxHeartbeats 1000000 in
theorem rfput_any (v u : Value) (b r : List UInt8) (S S' : Nat → Prop) (w : World) (hv : By w S v b) (hu : By w S' u r) (hb : b.length ≤ 1000000) (hr : r.length ≤ 20000) :
    Calls Try.prog 36 #[v, u] w (PutPost (b ++ recF r) w) := by
  obtain ⟨A, ca, rfl, hca, hma, -⟩ := id hv
  obtain ⟨B, cb, rfl, hcb, hmb, -⟩ := id hu
  have HV := Lib.hid hv
  have HU := Lib.hid hu
  unfold maxLen at hma hmb
  clear hv hu
  have hnil : ∀ w, By w (fun _ => True) (.slice none 0 0) [] := fun w => ⟨none, 0, rfl, by simp, by simp [maxLen], Sl.nil _ _ _ _⟩
  have hput : ∀ w, Calls Try.prog 63 #[.slice none 0 0, .int .u64 (r.length : Nat), .int .i64 4] w (PutPost (putN 4 r.length) w) := fun w => refput_any (.slice none 0 0) [] r.length 4 (fun _ => True) w (hnil w) (by simp) (by omega) (by omega)
  have Hnil := Lib.hid hnil
  clear hnil
  go_enter Try.func36, Try.ntmps36
  go_wp2_with (go_at_call 63; refine stopAt ?_)
  unfold Hid
  refine (hput _).mono ?_
  rintro e w1 ⟨u1, rfl, hu1, hs1⟩
  obtain ⟨A1, c1, rfl, hc1, hm1⟩ := hu1.formN (putN_len 4 _)
  have hbl := ByL.two (e := 24) (hu1.by_.mono (S' := fun _ => True) fun _ _ _ => trivial) ((HU.out.keep (hs1.mono fun _ _ _ => trivial)).mono (S' := fun _ => True) fun _ _ _ => trivial)
  have hof := refof_any _ _ _ _ hbl
  have hs2 : Same (fun _ => True) w1 (w1.alloc (.cells #[.slice A1 4 c1, .slice B r.length cb] 24)) := (Same.refl _ _).alloc _
  have hp : Calls Try.prog 63 #[.slice none 0 0, .int .u64 (n32 (ofF [putN 4 r.length, r])), .int .i64 4] (w1.alloc (.cells #[.slice A1 4 c1, .slice B r.length cb] 24))
      (PutPost (putN 4 (ofF [putN 4 r.length, r]).toNat) (w1.alloc (.cells #[.slice A1 4 c1, .slice B r.length cb] 24))) :=
    refput_any (.slice none 0 0) [] _ 4 (fun _ => True) _ (Hnil.out _) (by simp) (by omega) (by have := (ofF [putN 4 r.length, r]).toNat_lt; omega)
  have hn := n32_bd (ofF [putN 4 r.length, r])
  have hz1 := hs1.size
  clear hbl hput
  go_wp2_with (first
    | (go_at_call 62; refine hof.mono ?_; rintro e w2 ⟨rfl, rfl⟩)
    | (go_at_call 63; refine hp.mono ?_; rintro e w3 ⟨u3, rfl, hu3, hs3⟩; obtain ⟨A3, c3, rfl, hc3, hm3⟩ := hu3.formN (putN_len 4 _))
    | (at_builtin; refine stopAt ?_))
  unfold Hid
  have hz3 := hs3.size
  simp only [size_alloc1] at hz3
  have hs4 : Same (fun _ => True) w3 (w3.alloc (.cells #[] 5)) := (Same.refl _ _).alloc _
  have hs24 := (hs2.trans hs3).trans hs4
  have hs14 := hs1.trans hs24
  have hy1 := hu1.byLt.keepAll hs24
  have hy3 := hu3.byLt.keepAll hs4
  have hyr := HU.out.keep (hs14.mono fun _ _ _ => trivial)
  refine wpList_appL (B := w3.heap.size) (bs := []) (es := b) rfl (.tmp 29) (.tmp 30) rfl rfl rfl (OwnB.fresh (Nat.le_refl _)) (HV.out.keep (hs14.mono fun _ _ _ => trivial)) (by simp) (by simp; omega) ?_
  intro v4 w4 hown4 hs5
  rw [List.nil_append] at hown4
  have hy1 := hy1.keep (hs5.mono fun k _ hk => by omega)
  have hy3 := hy3.keep (hs5.mono fun k _ hk => hk.2)
  have hz5 := hs5.size
  simp only [size_alloc1] at hz5
  have hs15 := hs14.trans' hs5 (fun k hk _ => by omega)
  obtain ⟨A4, c4, rfl, -, -⟩ := hown4.form
  have H4 := Lib.hid (And.intro hown4 (And.intro hy1 (And.intro hy3 hs15)))
  clear hown4 hy1 hy3 hs15 hs14 hs5 hs24 hs4 hs3 hs2 hs1 hu1 hu3 hof hp hyr
  go_wp2_with (at_builtin; refine stopAt ?_)
  unfold Hid
  refine wpList_appL (B := w3.heap.size) rfl (.tmp 31) (.tmp 32) rfl rfl rfl H4.out.1 H4.out.2.1 (by omega) (by simp [putN_len]; omega) ?_
  intro v5 w5 hown5 hs6
  have hz6 := hs6.size
  obtain ⟨A5, c5, rfl, -, -⟩ := hown5.formN (n := b.length + 4) (by simp [putN_len])
  have H5 := Lib.hid (And.intro hown5 (And.intro (H4.out.2.2.1.keep (hs6.mono fun k _ hk => hk.2)) (H4.out.2.2.2.trans' hs6 (fun k hk _ => by omega))))
  clear hown5 hs6
  go_wp2_with (at_builtin; refine stopAt ?_)
  unfold Hid
  refine wpList_appL (B := w3.heap.size) rfl (.tmp 33) (.tmp 34) rfl rfl rfl H5.out.1 H5.out.2.1 (by omega) (by simp [putN_len]; omega) ?_
  intro v6 w6 hown6 hs7
  have hz7 := hs7.size
  obtain ⟨A6, c6, rfl, -, -⟩ := hown6.formN (n := b.length + 8) (by simp [putN_len])
  have hs17 := H5.out.2.2.trans' hs7 (fun k hk _ => by omega)
  have H6 := Lib.hid (And.intro hown6 hs17)
  clear hown6 hs7 hs17
  go_wp2_with (at_builtin; refine stopAt ?_)
  unfold Hid
  refine wpList_appL (B := w3.heap.size) rfl (.tmp 35) (.tmp 36) rfl rfl rfl H6.out.1 (HU.out.keep (H6.out.2.mono fun _ _ _ => trivial)) (by omega) (by simp [putN_len]; omega) ?_
  intro v7 w7 hown7 hs8
  have H7 := Lib.hid (And.intro hown7 (H6.out.2.trans' hs8 (fun k hk _ => by omega)))
  clear hown7 hs8
  go_wp2
  go_ret2
  refine ⟨_, rfl, OwnB.lower (B := w3.heap.size) ?_ (by omega), H7.out.2⟩
  have := H7.out.1
  rwa [show b ++ putN 4 r.length ++ putN 4 (ofF [putN 4 r.length, r]).toNat ++ r = b ++ recF r by simp [recF]] at this
theorem u64_wrap32 (c : UInt32) : IntKind.u64.wrap (n32 c) = n32 c := by
  have := n32_bd c
  simp [IntKind.wrap, IntKind.bits, IntKind.signed]
  omega
set_option maxRecDepth 100000 in
set_option maxHeartbeats 2000000 in
theorem rfnext_any (v : Value) (b : List UInt8) (at_ : Int) (S : Nat → Prop) (w : World) (hv : By w S v b) (hb : b.length ≤ 1000000) :
    Calls Try.prog 33 #[v, .int .i64 at_] w (NextPost (nextF b at_) w) := by
  obtain ⟨A, ca, rfl, hca, hma, -⟩ := id hv
  have HV := Lib.hid hv
  unfold maxLen at hma
  clear hv
  by_cases h1 : at_ < 0 ∨ (b.length : Int) < at_
  · have e : nextF b at_ = ([], 0, 1) := by unfold nextF; rw [if_pos h1]
    rw [e]
    clear e
    rcases h1 with h1 | h1
    all_goals
      go_enter Try.func33, Try.ntmps33
      go_wp2
      all_goals
        go_ret3
        exact ⟨_, rfl, OwnB.nil _ _, Same.refl _ _⟩
  obtain ⟨at_, rfl⟩ := Int.eq_ofNat_of_zero_le (show 0 ≤ at_ by omega)
  have hat : at_ ≤ b.length := by omega
  have hatI : (at_ : Int) ≤ (b.length : Int) := by omega
  by_cases h2 : b.length - at_ < 8
  · have e : nextF b at_ = ([], 0, 2) := by unfold nextF; rw [if_neg h1, Int.toNat_natCast, if_pos (by rw [List.length_drop]; exact h2)]
    rw [e]
    clear e h1
    have hlI : (b.length : Int) - (at_ : Int) < 8 := by omega
    go_enter Try.func33, Try.ntmps33
    go_wp2
    all_goals
      go_ret3
      exact ⟨_, rfl, OwnB.nil _ _, Same.refl _ _⟩
  obtain ⟨ad, rfl⟩ : ∃ ad, A = some ad := by
    obtain ⟨A', c', e, -, -, h3⟩ := HV.out
    injection e with e1
    subst e1
    obtain ⟨ad, h, -⟩ := h3.2 (by omega)
    exact ⟨ad, h⟩
  have hne : ¬ ca = at_ := by omega
  have hr8 : 8 ≤ b.length - at_ := by omega
  obtain ⟨rest, hrest⟩ : ∃ rest, rest = b.drop at_ := ⟨_, rfl⟩
  have hrl : rest.length = b.length - at_ := by rw [hrest, List.length_drop]
  obtain ⟨sz, hsz⟩ : ∃ sz, sz = getN (rest.take 4) := ⟨_, rfl⟩
  obtain ⟨told, htold⟩ : ∃ told, told = getN ((rest.drop 4).take 4) := ⟨_, rfl⟩
  have hg0 := refget_any _ b at_ 4 S w HV.out (by omega) (by omega)
  have hg4 := refget_any _ b (at_ + 4) 4 S w HV.out (by omega) (by omega)
  rw [← hrest, ← hsz] at hg0
  rw [← List.drop_drop, ← hrest, ← htold] at hg4
  have hszl : sz < 4294967296 := by rw [hsz]; exact getN_four _
  have htl : told < 4294967296 := by rw [htold]; exact getN_four _
  have hf : nextF b at_ = if 1048576 < sz then ([], 0, 3) else if rest.length - 8 < sz then ([], 0, 2) else if (ofF [rest.take 4, (rest.drop 8).take sz]).toNat ≠ told then ([], 0, 4) else ((rest.drop 8).take sz, (at_ : Int) + 8 + sz, 0) := by
    unfold nextF
    rw [if_neg h1, Int.toNat_natCast, ← hrest, if_neg (by omega), ← hsz, ← htold]
  have HF := Lib.hid hf
  have Hrl := Lib.hid hrl
  have HRE := Lib.hid hrest
  clear h1 h2 hf hsz htold hrl hrest
  have G0 : Calls Try.prog 61 #[.slice (some ad) b.length ca, .int .i64 at_, .int .i64 4] w fun e w' => e = .returned (.tuple #[.int .u64 sz, .int .i64 0]) ∧ w = w' := hg0
  have G4 : Calls Try.prog 61 #[.slice (some ad) b.length ca, .int .i64 ((at_ : Int) + 4), .int .i64 4] w fun e w' => e = .returned (.tuple #[.int .u64 told, .int .i64 0]) ∧ w = w' := hg4
  clear hg0 hg4
  have hb8I : (8 : Int) ≤ (b.length : Int) - (at_ : Int) := by omega
  by_cases h3 : 1048576 < sz
  · rw [if_pos h3] at HF
    rw [HF.out]
    go_enter Try.func33, Try.ntmps33
    go_wp2_with (go_at_call 61; refine G0.mono ?_; rintro e w' ⟨rfl, rfl⟩)
    go_ret3
    exact ⟨_, rfl, OwnB.nil _ _, Same.refl _ _⟩
  rw [if_neg h3] at HF
  by_cases h4 : rest.length - 8 < sz
  · rw [if_pos h4] at HF
    rw [HF.out]
    have h4I : (b.length : Int) - (at_ : Int) - 8 < (sz : Int) := by have := Hrl.out; omega
    go_enter Try.func33, Try.ntmps33
    go_wp2_with (go_at_call 61; refine G0.mono ?_; rintro e w' ⟨rfl, rfl⟩)
    go_ret3
    exact ⟨_, rfl, OwnB.nil _ _, Same.refl _ _⟩
  rw [if_neg h4] at HF
  have h4' : at_ + 8 + sz ≤ b.length := by have := Hrl.out; omega
  have h4I : (sz : Int) ≤ (b.length : Int) - (at_ : Int) - 8 := by omega
  have h3I : (sz : Int) ≤ 1048576 := by omega
  clear h3 h4
  have hw4 : IntKind.i64.wrap ((at_ : Int) + 4) = (at_ : Int) + 4 := IntWalk.i64_in _ (by omega)
  have hw8 : IntKind.i64.wrap ((at_ : Int) + 8) = (at_ : Int) + 8 := IntWalk.i64_in _ (by omega)
  have hn4 : ((at_ : Int) + 4).toNat = at_ + 4 := by omega
  have hn8 : ((at_ : Int) + 8).toNat = at_ + 8 := by omega
  have hJ1 : (at_ : Int) ≤ (at_ : Int) + 4 := by omega
  have hI1 : (0 : Int) ≤ (at_ : Int) := by omega
  have hI2 : (at_ : Int) + 4 ≤ (ca : Int) := by omega
  have hI3 : (0 : Int) ≤ (at_ : Int) + 8 := by omega
  have hI4 : (at_ : Int) + 8 ≤ (at_ : Int) + 8 + (sz : Int) := by omega
  have hI5 : (at_ : Int) + 8 + (sz : Int) ≤ (ca : Int) := by omega
  have hJ6 : (0 : Int) ≤ (at_ : Int) + 4 := by omega
  have hJ7 : ((at_ : Int) + 8 + (sz : Int)).toNat - (at_ + 8) = sz := by omega
  by_cases hca8 : ca = at_ + 8
  · obtain rfl : sz = 0 := by omega
    subst hca8
    have hX : By w S (.slice (some ad) 0 0) ((rest.drop 8).take 0) := by
      rw [List.take_zero]; exact By.none_ _ _ _ _ (by simp [maxLen])
    have h4b : By w S (.slice (some (ad.add at_)) 4 8) (rest.take 4) := by
      have := HV.out.cut at_ (at_ + 4) 8 (by omega) (by omega) (by omega) (by simp only [maxLen]; omega)
      rw [show at_ + 4 - at_ = 4 from by omega] at this
      rw [HRE.out]
      exact this
    have hbl := ByL.two (e := 24) h4b hX
    have hs2 := Lib.hid ((Same.refl (fun _ => True) w).alloc (.cells #[.slice (some (ad.add at_)) 4 8, (.slice (some ad) 0 0)] 24)).drew
    have hof : Calls Try.prog 62 #[.slice (some ⟨w.heap.size, 0, none⟩) 2 2] (w.alloc (.cells #[.slice (some (ad.add at_)) 4 8, (.slice (some ad) 0 0)] 24)).drew
        fun e w' => e = .returned (.int .u32 (n32 (ofF [rest.take 4, (rest.drop 8).take 0]))) ∧ (w.alloc (.cells #[.slice (some (ad.add at_)) 4 8, (.slice (some ad) 0 0)] 24)).drew = w' :=
      refof_any _ _ _ _ (hbl.keep (Same.refl _ _).drew)
    have hlX : ((rest.drop 8).take 0).length = 0 := by have := Hrl.out; simp
    obtain ⟨body, hbody⟩ : ∃ body, body = (rest.drop 8).take 0 := ⟨_, rfl⟩
    have HF := HF.out
    rw [← hbody] at hX hlX hof HF
    have HF := Lib.hid HF
    have HX := Lib.hid hX
    have HlX := Lib.hid hlX
    clear hbody hbl hX h4b hlX
    have hn := n32_bd (ofF [rest.take 4, body])
    by_cases h5 : (ofF [rest.take 4, body]).toNat ≠ told
    · rw [if_pos h5] at HF
      rw [HF.out]
      have hc : ((n32 (ofF [rest.take 4, body]) : Int) != (told : Int)) = true := by
        rw [bne_iff_ne]
        unfold n32
        omega
      clear h5
      generalize ofF [rest.take 4, body] = cc at *
      have hwu := u64_wrap32 cc
      go_enter Try.func33, Try.ntmps33
      go_wp2_with (go_at_call 61; refine stopAt ?_)
      unfold Hid
      refine G0.mono ?_
      rintro e w' ⟨rfl, rfl⟩
      go_wp2_with (go_at_call 61; refine G4.mono ?_; rintro e w' ⟨rfl, rfl⟩)
      go_region_held3 (fun w' => True) (exact trivial) ((go_at_call 62; refine hof.mono ?_; rintro e w' ⟨rfl, rfl⟩))
      go_wp2
      go_ret3
      exact ⟨_, rfl, OwnB.nil _ _, hs2.out⟩
    · rw [if_neg h5] at HF
      rw [HF.out]
      have hc : ((n32 (ofF [rest.take 4, body]) : Int) != (told : Int)) = false := by
        rw [show (n32 (ofF [rest.take 4, body]) : Int) = (told : Int) by unfold n32; omega]
        simp
      clear h5
      generalize ofF [rest.take 4, body] = cc at *
      have hwu := u64_wrap32 cc
      go_enter Try.func33, Try.ntmps33
      go_wp2_with (go_at_call 61; refine stopAt ?_)
      unfold Hid
      refine G0.mono ?_
      rintro e w' ⟨rfl, rfl⟩
      go_wp2_with (go_at_call 61; refine G4.mono ?_; rintro e w' ⟨rfl, rfl⟩)
      go_region_held3 (fun w' => True) (exact trivial) ((go_at_call 62; refine hof.mono ?_; rintro e w' ⟨rfl, rfl⟩))
      go_wp2_with (at_builtin; refine stopAt ?_)
      unfold Hid
      have hsX : Same (fun _ => True) w _ := hs2.out.trans ((Same.refl _ _).alloc (.cells #[] 5))
      refine wpList_appL (B := w.heap.size) (bs := []) (es := body) rfl (.tmp 68) (.tmp 73) rfl rfl rfl ((OwnB.fresh' (g := w.heap.size + 1) hs2.out.size (by simp)).keepAll (Same.refl _ _)) (HX.out.keep (hsX.mono fun _ _ _ => trivial)) (by have := hsX.size; exact this) (by rw [HlX.out]; simp; try omega) ?_
      intro v3 w3 hown3 hs3
      go_wp2
      go_ret3
      exact ⟨_, congrArg Ending.returned rfl, hown3, hsX.trans' hs3 fun k hk _ => hk⟩
  have hX : By w S (.slice (some ⟨ad.block, ad.off + (at_ + 7 + 1), none⟩) sz (ca - (at_ + 8))) ((rest.drop 8).take sz) := by
    have := HV.out.cut (at_ + 8) (at_ + 8 + sz) (ca - (at_ + 8)) (by omega) (by omega) (by omega) (by simp only [maxLen]; omega)
    rw [show at_ + 8 + sz - (at_ + 8) = sz from by omega] at this
    rw [HRE.out, List.drop_drop]
    exact this
  have h4b : By w S (.slice (some (ad.add at_)) 4 (ca - at_)) (rest.take 4) := by
    have := HV.out.cut at_ (at_ + 4) (ca - at_) (by omega) (by omega) (by omega) (by simp only [maxLen]; omega)
    rw [show at_ + 4 - at_ = 4 from by omega] at this
    rw [HRE.out]
    exact this
  have hbl := ByL.two (e := 24) h4b hX
  have hs2 := Lib.hid ((Same.refl (fun _ => True) w).alloc (.cells #[.slice (some (ad.add at_)) 4 (ca - at_), (.slice (some ⟨ad.block, ad.off + (at_ + 7 + 1), none⟩) sz (ca - (at_ + 8)))] 24)).drew
  have hof : Calls Try.prog 62 #[.slice (some ⟨w.heap.size, 0, none⟩) 2 2] (w.alloc (.cells #[.slice (some (ad.add at_)) 4 (ca - at_), (.slice (some ⟨ad.block, ad.off + (at_ + 7 + 1), none⟩) sz (ca - (at_ + 8)))] 24)).drew
      fun e w' => e = .returned (.int .u32 (n32 (ofF [rest.take 4, (rest.drop 8).take sz]))) ∧ (w.alloc (.cells #[.slice (some (ad.add at_)) 4 (ca - at_), (.slice (some ⟨ad.block, ad.off + (at_ + 7 + 1), none⟩) sz (ca - (at_ + 8)))] 24)).drew = w' :=
    refof_any _ _ _ _ (hbl.keep (Same.refl _ _).drew)
  have hlX : ((rest.drop 8).take sz).length = sz := by have := Hrl.out; simp; omega
  obtain ⟨body, hbody⟩ : ∃ body, body = (rest.drop 8).take sz := ⟨_, rfl⟩
  have HF := HF.out
  rw [← hbody] at hX hlX hof HF
  have HF := Lib.hid HF
  have HX := Lib.hid hX
  have HlX := Lib.hid hlX
  clear hbody hbl hX h4b hlX
  have hn := n32_bd (ofF [rest.take 4, body])
  by_cases h5 : (ofF [rest.take 4, body]).toNat ≠ told
  · rw [if_pos h5] at HF
    rw [HF.out]
    have hc : ((n32 (ofF [rest.take 4, body]) : Int) != (told : Int)) = true := by
      rw [bne_iff_ne]
      unfold n32
      omega
    clear h5
    generalize ofF [rest.take 4, body] = cc at *
    have hwu := u64_wrap32 cc
    go_enter Try.func33, Try.ntmps33
    go_wp2_with (go_at_call 61; refine stopAt ?_)
    unfold Hid
    refine G0.mono ?_
    rintro e w' ⟨rfl, rfl⟩
    go_wp2_with (go_at_call 61; refine G4.mono ?_; rintro e w' ⟨rfl, rfl⟩)
    go_region_held3 (fun w' => True) (exact trivial) ((go_at_call 62; refine hof.mono ?_; rintro e w' ⟨rfl, rfl⟩))
    go_wp2
    go_ret3
    exact ⟨_, rfl, OwnB.nil _ _, hs2.out⟩
  · rw [if_neg h5] at HF
    rw [HF.out]
    have hc : ((n32 (ofF [rest.take 4, body]) : Int) != (told : Int)) = false := by
      rw [show (n32 (ofF [rest.take 4, body]) : Int) = (told : Int) by unfold n32; omega]
      simp
    clear h5
    generalize ofF [rest.take 4, body] = cc at *
    have hwu := u64_wrap32 cc
    go_enter Try.func33, Try.ntmps33
    go_wp2_with (go_at_call 61; refine stopAt ?_)
    unfold Hid
    refine G0.mono ?_
    rintro e w' ⟨rfl, rfl⟩
    go_wp2_with (go_at_call 61; refine G4.mono ?_; rintro e w' ⟨rfl, rfl⟩)
    go_region_held3 (fun w' => True) (exact trivial) ((go_at_call 62; refine hof.mono ?_; rintro e w' ⟨rfl, rfl⟩))
    go_wp2_with (at_builtin; refine stopAt ?_)
    unfold Hid
    have hsX : Same (fun _ => True) w _ := hs2.out.trans ((Same.refl _ _).alloc (.cells #[] 5))
    refine wpList_appL (B := w.heap.size) (bs := []) (es := body) rfl (.tmp 68) (.tmp 73) rfl rfl rfl ((OwnB.fresh' (g := w.heap.size + 1) hs2.out.size (by simp)).keepAll (Same.refl _ _)) (HX.out.keep (hsX.mono fun _ _ _ => trivial)) (by have := hsX.size; exact this) (by rw [HlX.out]; simp; try omega) ?_
    intro v3 w3 hown3 hs3
    go_wp2
    go_ret3
    exact ⟨_, congrArg Ending.returned rfl, hown3, hsX.trans' hs3 fun k hk _ => hk⟩
end Go.Proofs.Ytpjinngngbifoaa
