/-
  FrameTurned: for every record, every rest and every byte that is turned, what stands there is no record, or one to the byte.
-/
import Derived.Test.YtlnkhkkekfjebaaFrm2
set_option linter.unusedSimpArgs false
set_option linter.unusedVariables false
namespace Go.Proofs.Ytlnkhkkekfjebaa
open Go.RowKit

/-- An own row that is not empty: its block. -/
theorem OwnB.row {w : World} {B n : Nat} {v : Value} {bs : List UInt8} (h : OwnB w B v bs) (hnl : bs.length = n) (hn : 0 < n) :
    ∃ g c, v = .slice (some ⟨g, 0, none⟩) n c ∧ B ≤ g ∧ g < w.heap.size ∧ n ≤ c ∧ c ≤ maxLen ∧ (∀ i (hi : i < bs.length), w.cell? ⟨g, i, none⟩ = some (V8 bs[i])) ∧ (∀ i, w.frozen? ⟨g, i, none⟩ = false) ∧
      ∀ i, i < bs.length → ∀ x, OwnB (w.setCell ⟨g, i, none⟩ (V8 x)) B v (bs.set i x) := by
  subst hnl
  rcases ownsRow_row h with ⟨-, h0, -⟩ | ⟨g, cap, cur, rfl, hb, hrow, h1, h2, h3, h4⟩
  · omega
  · refine ⟨g, cap, rfl, hb, hrow.lt, h1, h2, fun i hi => ?_, fun i => hrow.frozen i, fun i hi x => ?_⟩
    · rw [hrow.cell i]
      have : (cur.take (bs.length * 1))[i]? = (cs8 bs)[i]? := by rw [h4]
      rw [List.getElem?_take, if_pos (by omega)] at this
      rw [this]
      simp [hi]
    · have h5 := (hrow.set_ i (V8 x)).owns (base := B) (size := 1) (n := bs.length) (cap := cap) hb (by rw [List.length_set]; exact h3) h1 h2
      have h6 : ((cur.set i (V8 x)).take (bs.length * 1)) = cs8 (bs.set i x) := by
        rw [List.take_set, h4]
        simp [cs8]
      rw [h6] at h5
      unfold OwnB
      rw [List.length_set]
      exact h5
set_option maxRecDepth 100000 in
set_option maxHeartbeats 2000000 in
theorem frameturned_walk (vr vs : Value) (at_ : Int) (r s : List UInt8) (w : World) (hr : By w (· < w.heap.size) vr r) (hs : By w (· < w.heap.size) vs s) (hat : -9223372036854775808 ≤ at_ ∧ at_ ≤ 9223372036854775807) (x : UInt8) :
    Calls Try.prog 15 #[vr, vs, .int .i64 at_, .int .u8 (n8 x)] w (TrueP w) := by
  obtain ⟨A, ca, rfl, hca, hma, -⟩ := id hr
  obtain ⟨B, cb, rfl, hcb, hmb, -⟩ := id hs
  have HR := Lib.hid hr
  have HS := Lib.hid hs
  unfold maxLen at hma hmb
  have hxb := n8_bd x
  clear hr hs
  by_cases hlong : 4096 < r.length ∨ 4096 < s.length
  · rcases hlong with h | h
    all_goals
      go_enter Try.func15, Try.ntmps15
      go_wp2_with (go_at_call 52; refine (frmbegun_any _).mono ?_; rintro e w1 ⟨rfl, hs1⟩)
      all_goals
        go_ret
        exact ⟨rfl, hs1⟩
  · have hrl : r.length ≤ 4096 := by omega
    have hsl : s.length ≤ 4096 := by omega
    clear hlong
    have hnil : ∀ w, By w (fun _ => True) (.slice none 0 0) [] := fun w => By.none_ w _ _ _ (by simp [maxLen])
    have Hnil := Lib.hid hnil
    clear hnil
    obtain ⟨n, hn⟩ : ∃ n, n = 8 + r.length := ⟨_, rfl⟩
    have hrn : (recF r).length = n := by rw [recF_len, hn]
    have Hrn := Lib.hid hrn
    have Hn := Lib.hid hn
    have hn8 : 8 ≤ n ∧ n ≤ 4104 := by omega
    have hp := placeF_bd at_ n
    obtain ⟨i, hi⟩ : ∃ i : Nat, placeF at_ n = i := ⟨(placeF at_ n).toNat, by omega⟩
    have hil : i < n := by have := hp.2 (by omega); omega
    have hpl := fun w => place_any at_ (n : Int) w hat (by omega)
    rw [hi] at hpl
    clear hp hi hn hrn
    go_enter Try.func15, Try.ntmps15
    go_wp2_with (first
      | (go_at_call 52; refine (frmbegun_any _).mono ?_; rintro e w1 ⟨rfl, hs1⟩; have hp := fput_any _ _ [] r _ _ w1 (Hnil.out w1) (HR.out.keep (hs1.mono fun _ _ _ => trivial)) (by simp) (by omega); rw [List.nil_append] at hp)
      | (go_at_call 54; refine hp.mono ?_; rintro e w2 ⟨u, rfl, hu, hs2⟩; obtain ⟨g, c, rfl, hg1, hg2, hc, hcm, hcell, hfr, hset⟩ := hu.row Hrn.out (by omega))
      | (go_at_call 36; refine stopAt ?_))
    unfold Hid
    refine (hpl _).mono ?_
    rintro e w' ⟨rfl, rfl⟩
    have hs12 := hs1.trans hs2
    have hci := hcell i (by rw [Hrn.out]; exact hil)
    have hfi := hfr i
    obtain ⟨o, ho⟩ : ∃ o, o = (recF r)[i]'(by rw [Hrn.out]; exact hil) := ⟨_, rfl⟩
    rw [← ho] at hci
    have hset := hset i (by rw [Hrn.out]; exact hil) (o ^^^ x)
    have hilI : (i : Int) < (n : Int) := by omega
    have hxor := u8_xor o x
    have Ho := Lib.hid ho
    have Hset := Lib.hid hset
    clear hcell hfr hset ho hpl hp
    go_wp2_with (at_builtin; refine stopAt ?_)
    unfold Hid
    have hs3 : Same (fun k => k ≠ g) w2 (w2.setCell ⟨g, i, none⟩ (V8 (o ^^^ x))) := (Same.refl _ _).setCell (fun _ h => h rfl) _
    have hz1 := hs1.size
    have hz2 := hs2.size
    have hs13 := hs12.trans' hs3 (fun k hk _ => by omega)
    obtain ⟨t, ht⟩ : ∃ t, t = (recF r).set i (o ^^^ x) := ⟨_, rfl⟩
    have htl : t.length = n := by rw [ht, List.length_set, Hrn.out]
    have Hset := Hset.out
    rw [← ht] at Hset
    have Htl := Lib.hid htl
    have Ht := Lib.hid ht
    clear ht htl
    refine wpList_appB rfl (.tmp 42) (.tmp 43) rfl rfl rfl Hset (HS.out.keep (hs13.mono fun _ _ _ => trivial)) (by rw [World.size_setCell]; omega) (by rw [Htl.out]; omega) ?_
    intro v4 w4 hown4 hs4 _
    have hs14 := hs13.trans' hs4 (fun k hk _ e => by
      have := (Hset.lt_ e.symm).1
      omega)
    obtain ⟨A4, c4, rfl, hc4, hm4⟩ := hown4.formN (n := n + s.length) (by rw [List.length_append, Htl.out])
    have hnx := fnext_any _ (t ++ s) 0 _ w4 hown4.by_ (by rw [List.length_append, Htl.out]; omega)
    obtain ⟨r', m, e, hx⟩ : ∃ r' m e, nextF (t ++ s) 0 = (r', m, e) := ⟨_, _, _, rfl⟩
    rw [hx] at hnx
    have HX := Lib.hid hx
    have HB := Lib.hid hown4.by_
    have Hs14 := Lib.hid hs14
    unfold maxLen at hm4
    clear hs14 hs13 hs12 hs1 hs2 hs3 hs4 hown4 Hset hx hu hci hfi hxor
    by_cases he : e = 0
    · subst he
      obtain ⟨hm, hml⟩ := nextF_nat (a := 0) HX.out
      rw [Nat.zero_add] at hm hml
      have hrec : (t ++ s).take (8 + r'.length) = recF r' := by
        have := rec_at (a := 0) HX.out
        rwa [List.drop_zero] at this
      rw [List.length_append, Htl.out] at hml
      have hl9 : (recF r').length = 8 + r'.length := recF_len r'
      have Hrec := Lib.hid hrec
      have Hl9 := Lib.hid hl9
      have Hm := Lib.hid hm
      clear hrec hl9
      rw [hm] at hnx
      clear hm
      obtain ⟨d, hd⟩ : ∃ d, d = 8 + r'.length := ⟨_, rfl⟩
      have Hd := Lib.hid hd
      rw [← hd] at hnx hml
      have hrs : r'.length ≤ 9000 := by omega
      clear hd
      have hnx : Calls Try.prog 58 #[.slice A4 (n + s.length) c4, .int .i64 0] w4 (NextPost (r', ((d : Nat) : Int), 0) w4) := hnx
      go_wp2_with (first
        | (go_at_call 58; refine hnx.mono ?_; rintro e5 w5 ⟨u5, rfl, hu5, hs5⟩; have hp5 := fput_any _ _ [] r' _ _ w5 (Hnil.out w5) hu5.by_ (by simp) (by omega); rw [List.nil_append] at hp5; obtain ⟨A5, c5, rfl, -, -⟩ := hu5.form)
        | (go_at_call 54; refine hp5.mono ?_; rintro e6 w6 ⟨u6, rfl, hu6, hs6⟩; obtain ⟨A6, c6, rfl, -, -⟩ := hu6.formN (n := d) (by rw [Hl9.out, Hd.out])))
      have hs46 := hs5.trans hs6
      have v1 : ∀ k, (convert 27 9 (.slice A6 d c6)).run Try.prog (w6.drewN k) = .ok (.string (str (recF r'))) (w6.drewN k) := fun k =>
        conv_by (hu6.by_.keepAll ((Same.refl _ _).drewN k))
      have v2 : ∀ k, (convert 27 9 (.slice A4 d c4)).run Try.prog (w6.drewN k) = .ok (.string (str (recF r'))) (w6.drewN k) := fun k => by
        obtain ⟨A', c', e', h1, h2, h3⟩ := (HB.out.keepAll hs46).keepAll ((Same.refl _ _).drewN k)
        injection e' with e1 e2 e3
        subst e1 e3
        have ht := h3.take (k := d) (by rw [← e2]; exact hml)
        have hl2 : (recF r').length = d := by rw [Hl9.out, Hd.out]
        refine conv_by (S := fun k => w1.heap.size ≤ k) ⟨A4, c4, by rw [hl2], by rw [hl2]; omega, by simp only [maxLen]; omega, ?_⟩
        rw [hl2]
        rwa [Nat.mul_one, show (cs8 (t ++ s)).take d = cs8 (recF r') by rw [Hd.out, ← Hrec.out]; simp [cs8, List.map_take]] at ht
      have Hs6 := Lib.hid (Hs14.out.trans hs46)
      have hdI : (d : Int) ≤ ((n + s.length : Nat) : Int) := by omega
      have hdc : d ≤ c4 := by omega
      clear hs5 hs6 hs46 hu6 hu5 hp5 hnx
      go_wp2
      go_quiet (fail)
      go_wp2
      go_ret
      exact ⟨rfl, Hs6.out.drewN _⟩
    · obtain ⟨rfl, rfl⟩ := nextF_bad HX.out he
      have hx0 : ((n8 x : Int) != 0) = true := by
        rw [bne_iff_ne]
        intro h0
        have hx0 : x = 0 := n8_inj.1 h0
        apply he
        have h1 : t = recF r := by
          rw [Ht.out, hx0, Ho.out]
          simp
        have h2 := nextF_rec [] r s (by omega)
        rw [List.nil_append, ← h1] at h2
        have h3 := HX.out
        have h4 : nextF (t ++ s) 0 = _ := h2
        rw [h4] at h3
        simp only [Prod.mk.injEq] at h3
        exact h3.2.2.symm
      have heb : (e != 0) = true := by simpa using he
      clear he
      go_wp2_with (go_at_call 58; refine hnx.mono ?_; rintro e5 w5 ⟨u5, rfl, hu5, hs5⟩; obtain ⟨A5, c5, rfl, -, -⟩ := hu5.formN (n := 0) rfl)
      go_ret
      exact ⟨rfl, Hs14.out.trans hs5⟩
open Go.ChangeShapes Go.WideShapes Go.ChangeAt
set_option maxRecDepth 100000 in
theorem frameTurned_law {H : Type} {enc : TypeId × Value → H} : LawWalk Try.prog 15 Try.f15 H enc := by
  intro W base args ds ps hval hA
  rw [Try.params15] at hval
  have hA : DataW.TrodAll enc Try.prog W 0 (fun _ => true) true [27, 27, 3, 5] args ds ps := hA
  obtain ⟨v0, vs0, d0, ds0, p0, q0, hargs, rfl, rfl, h0, r0⟩ := trodAll_cons hA
  obtain ⟨v1, vs1, d1, ds1, p1, q1, rfl, rfl, rfl, h1, r1⟩ := trodAll_cons r0
  obtain ⟨v2, vs2, d2, ds2, p2, q2, rfl, rfl, rfl, h2, r2⟩ := trodAll_cons r1
  obtain ⟨v3, vs3, d3, ds3, p3, q3, rfl, rfl, rfl, h3, r3⟩ := trodAll_cons r2
  obtain ⟨rfl, rfl, rfl⟩ := trodAll_nil r3
  subst hargs
  obtain ⟨x0, g0⟩ := open_bytes (hval 0 27 v0 rfl rfl) h0
  obtain ⟨x1, g1⟩ := open_bytes (hval 1 27 v1 rfl rfl) h1
  obtain ⟨x2, rfl, rfl, rfl, g2⟩ := open_int Try.underlying3 (hval 2 3 v2 rfl rfl) h2
  obtain ⟨x3, rfl, rfl, rfl, g3⟩ := open_int Try.underlying5 (hval 3 5 v3 rfl rfl) h3
  rw [u8_of_wf g3]
  exact frameturned_walk _ _ _ x0 x1 W g0 g1 (i64_of_wf g2) _
end Go.Proofs.Ytlnkhkkekfjebaa
