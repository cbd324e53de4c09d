/-
  Lists of strings that a call owns; the walks of texts and alike.
-/
import Derived.Test.YtpjinngngbifoaaWalB
import Derived.Deep.QuietTactic
import Derived.BigQuiet
set_option linter.unusedSimpArgs false
set_option linter.unusedVariables false
namespace Go.Proofs.Ytpjinngngbifoaa
open Go.RowKit

abbrev strV (b : List UInt8) : Value := .string (str b)
theorem TSt : SlT Try.prog 38 9 1 16 (.string ⟨#[]⟩) := ⟨by kernel_rfl, by kernel_rfl, rfl, by omega⟩
/-- A slice of strings that reads as these texts. -/
def RdS (w : World) (S : Nat → Prop) (v : Value) (ss : List (List UInt8)) : Prop :=
  ∃ A c, v = .slice A ss.length c ∧ ss.length ≤ c ∧ c ≤ maxLen ∧ Sl w S 1 A ss.length (ss.map strV)
theorem RdS.keep {w w' : World} {S : Nat → Prop} {v : Value} {ss : List (List UInt8)} (h : RdS w S v ss) (hs : Same S w w') : RdS w' S v ss := by
  obtain ⟨A, c, rfl, h1, h2, h3⟩ := h
  exact ⟨A, c, rfl, h1, h2, h3.keep hs⟩
theorem RdS.mono {w : World} {S S' : Nat → Prop} {v : Value} {ss : List (List UInt8)} (h : RdS w S v ss) (hs : ∀ k, k < w.heap.size → S k → S' k) : RdS w S' v ss := by
  obtain ⟨A, c, rfl, h1, h2, h3⟩ := h
  exact ⟨A, c, rfl, h1, h2, h3.mono hs⟩
/-- A slice of strings that the call owns. -/
def OwnS (w : World) (B : Nat) (v : Value) (ss : List (List UInt8)) : Prop := w.ownsRow B 9 1 v ss.length (ss.map strV)
theorem OwnS.nil (w : World) (B : Nat) : OwnS w B (.slice none 0 0) [] := World.ownsRow_nil _ _ _ _
theorem OwnS.form {w : World} {B : Nat} {v : Value} {ss : List (List UInt8)} (h : OwnS w B v ss) : ∃ A c, v = .slice A ss.length c ∧ ss.length ≤ c ∧ c ≤ maxLen := own_cap h
theorem OwnS.keepAll {w w' : World} {B : Nat} {v : Value} {ss : List (List UInt8)} (h : OwnS w B v ss) (hs : Same (fun _ => True) w w') : OwnS w' B v ss := own_keepAll h hs
theorem OwnS.keep {w w' : World} {S : Nat → Prop} {B : Nat} {v : Value} {ss : List (List UInt8)} (h : OwnS w B v ss) (hs : Same S w w') (hS : ∀ k, B ≤ k → k < w.heap.size → S k) : OwnS w' B v ss :=
  own_keep h hs fun k hk => hS k (own_ge h hk.symm) (h.lt k hk).2
theorem OwnS.rd {w : World} {B : Nat} {v : Value} {ss : List (List UInt8)} (h : OwnS w B v ss) : RdS w (fun k => B ≤ k) v ss := by
  obtain ⟨A, c, rfl, h1, h2⟩ := h.form
  exact ⟨A, c, rfl, h1, h2, (Sl.of_own h).mono fun k _ hk => own_ge h hk⟩
theorem OwnS.lower {w : World} {B B' : Nat} {v : Value} {ss : List (List UInt8)} (h : OwnS w B v ss) (hb : B' ≤ B) : OwnS w B' v ss := own_lower h hb
def TextsPost (l : List (List UInt8)) (w : World) (e : Ending) (w' : World) : Prop := ∃ u, e = .returned u ∧ OwnS w' w.heap.size u l ∧ Same (fun _ => True) w w'
set_option maxRecDepth 100000 in
set_option maxHeartbeats 1000000 in
theorem texts_any (v : Value) (l : List (List UInt8)) (S : Nat → Prop) (w : World) (hv : ByL w S v l) (hl : l.length ≤ 100000) :
    Calls Try.prog 17 #[v] w (TextsPost l w) := by
  obtain ⟨A, c, vs, rfl, hc, hm, -, -⟩ := id hv
  have HV := Lib.hid hv
  clear hv
  obtain ⟨N, hN⟩ : ∃ N, N = l.length := ⟨_, rfl⟩
  rw [← hN] at hc hl ⊢
  have HN := Lib.hid hN
  clear hN
  unfold maxLen at hm
  have H0 := Lib.hid (OwnS.nil w w.heap.size)
  go_enter Try.func17, Try.ntmps17
  go_wp2
  go_loopw [3, 4] (fun u i wr => ∃ k : Nat, k ≤ N ∧ i = .int .i64 k ∧ Hid (OwnS wr w.heap.size u (l.take k)) ∧ Hid (Same (fun _ => True) w wr)) (fun _ i _ => N - (intOf i).toNat)
  case atStart => exact ⟨0, by omega, rfl, by simpa using H0, Lib.hid (Same.refl _ _)⟩
  case round =>
    obtain ⟨k, hk, rfl, HO, HS⟩ := hrel
    obtain ⟨wo, rfl⟩ : ∃ wo : World, wo = wr := ⟨_, rfl⟩
    clear H0
    have hlk : (l.take k).length = k := by rw [List.length_take, ← HN.out]; omega
    obtain ⟨Ao, co, rfl, hco, hmo⟩ := own_cap HO.out
    rw [hlk] at HO ⊢
    clear hlk
    by_cases hkN : k < N
    · have hkr : k < l.length := by rw [← HN.out]; exact hkN
      have htk : Hid (l.take (k + 1) = l.take k ++ [l[k]]) := Lib.hid (List.take_succ_eq_append_getElem hkr)
      obtain ⟨ad, Ar, cr, rfl, -, hck, hbr⟩ := (HV.out.keep (HS.out.mono fun _ _ _ => trivial)).at_ hkr
      generalize l[k] = x at hck hbr htk
      obtain ⟨L, hL⟩ : ∃ L, L = x.length := ⟨_, rfl⟩
      have hcv := conv_by hbr
      rw [← hL] at hck hcv
      have HL := Lib.hid hL
      have HCV := Lib.hid hcv
      clear hL hbr hcv
      go_wp2_with (with_reducible refine stopConv rfl ?_)
      unfold Hid
      refine wpList_conv rfl rfl rfl HCV.out ?_
      go_wp2_with (at_builtin; refine stopAt ?_)
      unfold Hid
      have hsB : Same (fun _ => True) wo (wo.alloc (.cells #[strV x] 9)) := (Same.refl _ _).alloc _
      have hown := HO.out.keepAll hsB
      refine wpList_app TSt _ rfl (.tmp 11) (.tmp 17) rfl w.heap.size _ k ((l.take k).map strV) rfl (by have := hown; unfold OwnS at this; rwa [show (l.take k).length = k by rw [List.length_take, ← HN.out]; omega] at this) (fun _ => True) (some ⟨wo.heap.size, 0, none⟩) 1 1 [strV x] rfl (sl_one _ _ _ _ trivial) (by simp [Value.oneCell']) (by simp only [maxLen]; omega) (by omega) (by have := HS.out.size; simp; omega) ?_
      intro v3 w3 hown3 hs3 hb3
      have HO3 : Hid (OwnS w3 w.heap.size v3 (l.take (k + 1))) := Lib.hid (by
        unfold OwnS
        rw [htk.out, List.map_append, List.length_append, show (l.take k).length = k by rw [List.length_take, ← HN.out]; omega]
        exact hown3)
      have HS3 : Hid (Same (fun _ => True) w w3) := Lib.hid ((HS.out.trans hsB).trans' hs3 fun q hq _ e => by have := own_ge HO.out e; omega)
      clear hown3 hs3 hb3 hown hsB hck
      go_wp2
      go_roundw
      case rel => exact ⟨k + 1, by omega, by go_num, HO3, HS3⟩
      case measure => simp [intOf]; omega
    · obtain rfl : N = k := by omega
      clear hk hkN
      go_wp2
      go_ret
      refine ⟨_, rfl, ?_, HS.out⟩
      have := HO.out
      rwa [List.take_of_length_le (by rw [← HN.out]; exact Nat.le_refl _)] at this
theorem RdS.at_ {w : World} {S : Nat → Prop} {A : Option Addr} {n c k : Nat} {ss : List (List UInt8)} (h : RdS w S (.slice A n c) ss) (hk : k < ss.length) : ∃ ad, A = some ad ∧ w.cell? (ad.add k) = some (strV ss[k]) := by
  obtain ⟨A', c', e, h1, h2, h3⟩ := h
  injection e with e1 e2 e3
  subst e1
  obtain ⟨ad, u, rfl, -, hu, hc⟩ := h3.at_ hk
  rw [List.getElem?_map, List.getElem?_eq_getElem hk] at hu
  simp at hu
  subst hu
  exact ⟨ad, rfl, hc⟩
theorem take_eq_step {α : Type} {a b : List α} {k : Nat} (h : a.take k = b.take k) (ha : k < a.length) (hb : k < b.length) (e : a[k] = b[k]) : a.take (k + 1) = b.take (k + 1) := by
  rw [List.take_succ_eq_append_getElem ha, List.take_succ_eq_append_getElem hb, h, e]
set_option maxRecDepth 100000 in
set_option maxHeartbeats 1000000 in
theorem alike_any (va vb : Value) (a b : List (List UInt8)) (S S2 : Nat → Prop) (w : World) (ha : ByL w S va a) (hb : RdS w S2 vb b) (hla : a.length ≤ 100000) (hlb : b.length ≤ 100000) :
    Calls Try.prog 16 #[va, vb] w (GrowPost (.bool (decide (a = b))) w) := by
  obtain ⟨A, c, vs, rfl, hc, hm, -, -⟩ := id ha
  obtain ⟨B, cb, rfl, hcb, hmb, -⟩ := id hb
  have HA := Lib.hid ha
  have HB := Lib.hid hb
  clear ha hb
  obtain ⟨N, hN⟩ : ∃ N, N = a.length := ⟨_, rfl⟩
  obtain ⟨M, hM⟩ : ∃ M, M = b.length := ⟨_, rfl⟩
  rw [← hN] at hc hla ⊢
  rw [← hM] at hcb hlb ⊢
  have HN := Lib.hid hN
  have HM := Lib.hid hM
  clear hN hM
  unfold maxLen at hm hmb
  obtain ⟨R, hR⟩ : ∃ R, R = decide (a = b) := ⟨_, rfl⟩
  rw [← hR]
  have HR := Lib.hid hR
  clear hR
  by_cases hNM : N = M
  case neg =>
    have hR : R = false := by
      rw [HR.out]
      exact decide_eq_false fun e => hNM (by rw [HN.out, HM.out, e])
    subst hR
    have hne : ((N : Int) != (M : Int)) = true := by simp; omega
    go_enter Try.func16, Try.ntmps16
    go_wp2
    go_ret
    exact ⟨rfl, Same.refl _ _⟩
  subst hNM
  go_enter Try.func16, Try.ntmps16
  go_wp2
  go_loopw [5] (fun i wr => ∃ k : Nat, k ≤ N ∧ i = .int .i64 k ∧ Hid (a.take k = b.take k) ∧ Hid (Same (fun _ => True) w wr)) (fun i _ => N - (intOf i).toNat)
  case atStart => exact ⟨0, by omega, rfl, Lib.hid (by simp), Lib.hid (Same.refl _ _)⟩
  case round =>
    obtain ⟨k, hk, rfl, HE, HS⟩ := hrel
    obtain ⟨wo, rfl⟩ : ∃ wo : World, wo = wr := ⟨_, rfl⟩
    by_cases hkN : k < N
    · have hka : k < a.length := by rw [← HN.out]; exact hkN
      have hkb : k < b.length := by rw [← HM.out]; exact hkN
      obtain ⟨ad, Ar, cr, rfl, -, hck, hbr⟩ := (HA.out.keep (HS.out.mono fun _ _ _ => trivial)).at_ hka
      obtain ⟨ad2, rfl, hck2⟩ := (HB.out.keep (HS.out.mono fun _ _ _ => trivial)).at_ hkb
      have hst : Hid (a[k] = b[k] → a.take (k + 1) = b.take (k + 1)) := Lib.hid (take_eq_step HE.out hka hkb)
      have hsf : Hid (¬ a[k] = b[k] → R = false) := Lib.hid fun hne => by
        rw [HR.out]
        refine decide_eq_false fun e => hne ?_
        subst e; rfl
      generalize a[k] = x at hck hbr hst hsf
      generalize b[k] = y at hck2 hst hsf
      obtain ⟨L, hL⟩ : ∃ L, L = x.length := ⟨_, rfl⟩
      have hcv := fun n => conv_by (hbr.keepAll ((Same.refl (fun _ => True) wo).drewN n) (S := S))
      rw [← hL] at hck hcv
      have HL := Lib.hid hL
      obtain ⟨s1, hs1⟩ : ∃ s, s = str x := ⟨_, rfl⟩
      obtain ⟨s2, hs2⟩ : ∃ s, s = str y := ⟨_, rfl⟩
      unfold strV at hck2
      rw [← hs1] at hcv
      rw [← hs2] at hck2
      have HS1 := Lib.hid hs1
      have HS2 := Lib.hid hs2
      clear hL hbr hs1 hs2
      have hx1 : (0 : Int) ≤ (k : Int) := by omega
      have hx2 : (k : Int) < (N : Int) := by omega
      by_cases hxy : x = y
      · have he : s1.toList = s2.toList := by rw [HS1.out, HS2.out, hxy]
        have he2 : (s1.toList == s2.toList) = true := by simp [he]
        have he3 : (s1.toList != s2.toList) = false := by simp [he]
        have HX := Lib.hid hxy
        clear hxy
        go_wp2
        go_quiet (fail)
        go_wp2
        go_roundw
        case rel => exact ⟨k + 1, by omega, by go_num, Lib.hid (hst.out HX.out), Lib.hid (HS.out.drewN _)⟩
        case measure => simp [intOf]; omega
      · have he : ¬ s1.toList = s2.toList := by rw [HS1.out, HS2.out, str_toList, str_toList]; exact hxy
        have he2 : (s1.toList == s2.toList) = false := by simp [he]
        have he3 : (s1.toList != s2.toList) = true := by simp [he]
        have hR := hsf.out hxy
        clear hxy
        subst hR
        go_wp2
        go_quiet (fail)
        go_wp2
        go_ret
        exact ⟨rfl, HS.out.drewN _⟩
    · obtain rfl : N = k := by omega
      clear hk hkN
      have hR : R = true := by
        rw [HR.out]
        have := HE.out
        rw [List.take_of_length_le (by rw [← HN.out]; exact Nat.le_refl _), List.take_of_length_le (by rw [← HM.out]; exact Nat.le_refl _)] at this
        exact decide_eq_true this
      subst hR
      go_wp2
      go_ret
      exact ⟨rfl, HS.out⟩
end Go.Proofs.Ytpjinngngbifoaa
