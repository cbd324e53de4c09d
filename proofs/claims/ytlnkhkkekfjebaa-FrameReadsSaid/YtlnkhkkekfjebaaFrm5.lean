/-
  FrameReads: for every bytes and every place, what frame reads there, and scans of all, is what the document does, time and again.
-/
import Derived.Test.YtlnkhkkekfjebaaFrm2
import Derived.Test.YtlnkhkkekfjebaaFrmQ
set_option linter.unusedSimpArgs false
set_option linter.unusedVariables false
namespace Go.Proofs.Ytlnkhkkekfjebaa
open Go.RowKit

/-- A list of records of which those from i on are as they were. -/
def RecsFrom (w : World) (B : Nat) (v : Value) (vs : List Value) (l : List (List UInt8)) (i : Nat) : Prop :=
  w.ownsRow B 27 1 v l.length vs ∧ ∀ (j : Nat) (u : Value) (x : List UInt8), i ≤ j → vs[j]? = some u → l[j]? = some x → OwnB w B u x
theorem RecsFrom.at_ {w : World} {B : Nat} {A : Option Addr} {n c : Nat} {vs : List Value} {l : List (List UInt8)} {i : Nat} (h : RecsFrom w B (.slice A n c) vs l i) (hi : i < l.length) :
    ∃ ad A2 c2, A = some ad ∧ vs[i]? = some (.slice A2 l[i].length c2) ∧ w.cell? (ad.add i) = some (.slice A2 l[i].length c2) ∧ OwnB w B (.slice A2 l[i].length c2) l[i] := by
  obtain ⟨h1, h2⟩ := h
  obtain ⟨A', c', e, -, -⟩ := own_cap h1
  injection e with e1 e2 e3
  subst e1 e2 e3
  obtain ⟨ad, u, rfl, -, hu, hc⟩ := (Sl.of_own h1).at_ hi
  have hb := h2 i u l[i] (Nat.le_refl _) hu (List.getElem?_eq_getElem hi)
  obtain ⟨A2, c2, rfl, -⟩ := hb.form
  exact ⟨ad, A2, c2, rfl, hu, hc, hb⟩
/-- One of them is written over. -/
theorem RecsFrom.spoil {w w' : World} {B : Nat} {v u : Value} {vs : List Value} {l : List (List UInt8)} {i : Nat} (h : RecsFrom w B v vs l i)
    (hd : ∀ (i j : Nat) (u u' : Value), i < j → vs[i]? = some u → vs[j]? = some u' → ∀ k, u.ownBlock = some k → u'.ownBlock ≠ some k)
    (hi : vs[i]? = some u) {x : List UInt8} (hx : OwnB w B u x) (hs : Same (fun k => some k ≠ u.ownBlock) w w') : RecsFrom w' B v vs l (i + 1) := by
  obtain ⟨h1, h2⟩ := h
  refine ⟨own_keep h1 hs fun k hk e => own_types h1 hx e.symm hk, fun j u' y hj hu' hy => ?_⟩
  exact own_keep (h2 j u' y (by omega) hu' hy) hs fun k hk e => hd i j u u' (by omega) hi hu' k e.symm hk
theorem RecsFrom.keepAll {w w' : World} {B : Nat} {v : Value} {vs : List Value} {l : List (List UInt8)} {i : Nat} (h : RecsFrom w B v vs l i) (hs : Same (fun _ => True) w w') : RecsFrom w' B v vs l i :=
  ⟨own_keepAll h.1 hs, fun j u x hj hu hx => (h.2 j u x hj hu hx).keepAll hs⟩
set_option maxRecDepth 100000 in
set_option maxHeartbeats 4000000 in
theorem framereads_walk (vb : Value) (at_ : Int) (b : List UInt8) (w : World) (hb : By w (· < w.heap.size) vb b) (hat : -9223372036854775808 ≤ at_ ∧ at_ ≤ 9223372036854775807) :
    Calls Try.prog 13 #[vb, .int .i64 at_] w (TrueP w) := by
  obtain ⟨A, ca, rfl, hca, hma, -⟩ := id hb
  have HB := Lib.hid hb
  unfold maxLen at hma
  clear hb
  by_cases hlong : 16384 < b.length
  · go_enter Try.func13, Try.ntmps13
    go_wp2_with (go_at_call 52; refine (frmbegun_any _).mono ?_; rintro e w1 ⟨rfl, hs1⟩)
    go_ret
    exact ⟨rfl, hs1⟩
  · have hbl : b.length ≤ 16384 := by omega
    clear hlong
    have hmt : b.length + 3 ≤ maxLen := by simp only [maxLen]; omega
    go_enter Try.func13, Try.ntmps13
    go_wp2_with (first
      | (go_at_call 52; refine (frmbegun_any _).mono ?_; rintro e w1 ⟨rfl, hs1⟩; have htw := twin_any _ b _ w1 (HB.out.keep (hs1.mono fun _ _ _ => trivial)) (by omega))
      | (go_at_call 53; refine htw.mono ?_; rintro e w2 ⟨t, tg, rfl, htg, ht, hs2⟩; obtain ⟨rfl, -⟩ := id ht))
    have HT := Lib.hid ht
    have Hs2 := Lib.hid (hs1.trans hs2)
    have htgl := ht.2.lt
    have hz1 := hs1.size
    clear ht hs1 hs2 htw
    go_loopw [6] (fun i wr => ∃ k : Nat, k ≤ 2 ∧ i = .int .i64 k ∧ Hid (Twin wr tg (.slice (some ⟨tg, 0, none⟩) b.length (b.length + 3)) b) ∧ Hid (Same (fun _ => True) w wr)) (fun i _ => 2 - (intOf i).toNat)
    case atStart => exact ⟨0, by omega, rfl, HT, Hs2⟩
    case round =>
      obtain ⟨k, hk, rfl, ht, hsm⟩ := hrel
      obtain ⟨wo, rfl⟩ : ∃ wo : World, wo = wr := ⟨_, rfl⟩
      clear HT Hs2
      by_cases hlt : k < 2
      · have htl := ht.out.2.lt
        have hz := hsm.out.size
        obtain ⟨r, m, e, hx⟩ : ∃ r m e, nextF b at_ = (r, m, e) := ⟨_, _, _, rfl⟩
        have hn1 := fnext_any _ b at_ _ wo (ht.out.by hmt) (by omega)
        rw [hx] at hn1
        have HX := Lib.hid hx
        clear hx
        go_wp2_with (go_at_call 58; refine hn1.mono ?_; rintro e7 w7 ⟨u7, rfl, hu7, hs7⟩; obtain ⟨A7, c7, rfl, -, -⟩ := hu7.form)
        have hs07 := hsm.out.trans hs7
        have hn2 := rfnext_any _ b at_ _ w7 (HB.out.keep (hs07.mono fun _ _ _ => trivial)) (by omega)
        rw [HX.out] at hn2
        go_wp2_with (go_at_call 59; refine hn2.mono ?_; rintro e8 w8 ⟨u8, rfl, hu8, hs8⟩; obtain ⟨A8, c8, rfl, -, -⟩ := hu8.form)
        have hs78 := hs7.trans hs8
        have ht8 := ht.out.keep hs78 trivial
        have hsc := fscan_any _ b _ w8 (ht8.by hmt) (by omega)
        go_wp2_with (go_at_call 60; refine hsc.mono ?_; rintro e9 w9 ⟨u9, l, a, rfl, hsf, hl9, hs9⟩; obtain ⟨A9, c9, rfl, -, -⟩ := hl9.form)
        have hs09 := hs07.trans (hs8.trans hs9)
        have hrs := rfscan_any _ b _ w9 (HB.out.keep (hs09.mono fun _ _ _ => trivial)) (by omega)
        go_wp2_with (first
          | (go_at_call 61; refine hrs.mono ?_; rintro e10 w10 ⟨u10, l', a', rfl, hsf', hl10, hs10⟩; obtain ⟨rfl, rfl⟩ := ScanF.uniq hsf' hsf; obtain ⟨A10, c10, rfl, hc10, hm10⟩ := hl10.form; have v1 := conv_by (hu7.by_.keepAll ((hs8.trans hs9).trans hs10)); have v2 := conv_by (hu8.by_.keepAll (hs9.trans hs10)); have hkp := kept_any _ _ b tg _ w10 (ht8.keep (hs9.trans hs10) trivial) (HB.out.keep ((hs09.trans hs10).mono fun _ _ _ => trivial)) (by omega))
          | (go_at_call 56; refine hkp.mono ?_; rintro e11 w11 ⟨rfl, e11'⟩; subst e11'))
        have hz7 := hs7.size
        have hz8 := hs8.size
        have hz9 := hs9.size
        have hz10 := hs10.size
        obtain ⟨vs, p1, p2, p3⟩ := hl9
        have hvl : vs.length = l'.length := by have := p1.1; omega
        have hold := Lib.hid (rec_lt hvl p2)
        have hR0 : Hid (RecsFrom w11 w8.heap.size (.slice A9 l'.length c9) vs l' 0) := Lib.hid ⟨own_keepAll p1 hs10, fun j u x _ hu hx => (p2 j u x hu hx).keepAll hs10⟩
        have HD := Lib.hid p3
        have HL := Lib.hid (hl10.list)
        have HU7 := Lib.hid (hu7.keepAll ((hs8.trans hs9).trans hs10))
        have HU7l := Lib.hid (fun k hk => (hu7.lt_ (k := k) hk).2)
        have HT11 := Lib.hid (ht8.keep (hs9.trans hs10) trivial)
        have Hs11 := Lib.hid (hs09.trans hs10)
        unfold maxLen at hm10
        clear hvl p1 p2 p3 hl10 hu7 hu8 hs7 hs8 hs9 hs10 hs07 hs78 hs09 ht8 hn1 hn2 hsc hrs hkp v1 v2 hsf hsf' ht hsm
        go_loopw [17] (fun i wq => ∃ j : Nat, j ≤ l'.length ∧ i = .int .i64 j ∧ Hid (RecsFrom wq w8.heap.size (.slice A9 l'.length c9) vs l' j) ∧ Hid (Same (fun k => k < w8.heap.size ∨ w9.heap.size ≤ k) w11 wq)) (fun i _ => l'.length - (intOf i).toNat)
        case atStart => exact ⟨0, by omega, rfl, hR0, Lib.hid (Same.refl _ _)⟩
        case round =>
          obtain ⟨j, hj, rfl, hR, hq⟩ := hrel
          clear hR0
          by_cases hlt2 : j < l'.length
          · obtain ⟨ad, A2, c2, rfl, hvj, hc1, hown⟩ := hR.out.at_ hlt2
            obtain ⟨ad3, A3, c3, rfl, -, hc3, hby3⟩ := (HL.out.keep (hq.out.mono fun k _ hk => Or.inr hk)).at_ hlt2
            have hjI : (j : Int) < (l'.length : Int) := by omega
            have v1 : ∀ k, (convert 27 9 (.slice A2 l'[j].length c2)).run Try.prog (wr.drewN k) = .ok (.string (str l'[j])) (wr.drewN k) := fun k => conv_by (hown.by_.keepAll ((Same.refl _ _).drewN k))
            have v2 : ∀ k, (convert 27 9 (.slice A3 l'[j].length c3)).run Try.prog (wr.drewN k) = .ok (.string (str l'[j])) (wr.drewN k) := fun k => conv_by (hby3.keepAll ((Same.refl _ _).drewN k))
            have Hown := Lib.hid hown
            have Hj := Lib.hid (show j + 1 ≤ l'.length from hlt2)
            clear hown hby3
            generalize l'[j] = x at *
            go_wp2
            go_quiet (fail)
            have hdw : Same (fun _ => True) wr (wr.drewN nq) := (Same.refl _ _).drewN nq
            have hown5 := Hown.out.keepAll hdw
            have hR5 := hR.out.keepAll hdw
            have hq5 := hq.out.trans (hdw.mono fun _ _ _ => trivial)
            have hc5 := hdw.cell trivial hc1
            generalize wr.drewN nq = w12 at *
            clear v1 v2 hc1 hc3
            have hsp := spoil_any _ _ _ _ w12 hown5
            have H12 := Lib.hid (And.intro hown5 (And.intro hR5 hq5))
            clear hown5 hR5 hq5 hdw
            go_wp2_with (go_at_call 57; refine hsp.mono ?_; rintro e13 w13 ⟨rfl, hs13⟩)
            obtain ⟨hown5, hR5, hq5⟩ := H12.out
            have hR6 := Lib.hid (hR5.spoil HD.out hvj hown5 hs13)
            have hq6 := Lib.hid (hq5.trans (hs13.mono fun k _ hk e => by
              have h1 := (hown5.lt_ e.symm).1
              have h2 := hold.out j _ k hvj e.symm
              omega))
            clear hown5 hR5 hq5 hs13 hsp
            go_roundw
            case rel => exact ⟨j + 1, Hj.out, by go_num, hR6, hq6⟩
            case measure => have := Hj.out; simp [intOf]; omega
          · obtain rfl : j = l'.length := by omega
            have h7 : OwnB wr _ _ _ := own_keep HU7.out hq.out (fun k hk => Or.inl (by have := HU7l.out k hk; omega))
            have hsp := spoil_any _ _ _ _ wr h7
            go_wp2_with (go_at_call 57; refine hsp.mono ?_; rintro e13 w13 ⟨rfl, hs13⟩)
            have hfar : ∀ k, k < wo.heap.size → some k ≠ (Value.slice A7 r.length c7).ownBlock := fun k hk e => by have := (HU7.out.lt_ e.symm).1; omega
            have ht13 := Lib.hid ((HT11.out.keep hq.out (.inl (by omega))).keep hs13 (hfar tg htl))
            have hs := Lib.hid ((Hs11.out.trans' hq.out (fun k hk _ => .inl (by omega))).trans' hs13 (fun k hk _ => hfar k (by omega)))
            clear hs13 hsp h7
            go_roundw
            case rel => exact ⟨k + 1, by omega, by go_num, ht13, hs⟩
            case measure => simp [intOf]; omega
      · obtain rfl : k = 2 := by omega
        go_wp2
        go_ret
        exact ⟨rfl, hsm.out⟩
open Go.ChangeShapes Go.WideShapes Go.ChangeAt
set_option maxRecDepth 100000 in
theorem frameReads_law {H : Type} {enc : TypeId × Value → H} : LawWalk Try.prog 13 Try.f13 H enc := by
  intro W base args ds ps hval hA
  rw [Try.params13] at hval
  have hA : DataW.TrodAll enc Try.prog W 0 (fun _ => true) true [27, 3] args ds ps := hA
  obtain ⟨v0, vs0, d0, ds0, p0, q0, hargs, rfl, rfl, h0, r0⟩ := trodAll_cons hA
  obtain ⟨v1, vs1, d1, ds1, p1, q1, rfl, rfl, rfl, h1, r1⟩ := trodAll_cons r0
  obtain ⟨rfl, rfl, rfl⟩ := trodAll_nil r1
  subst hargs
  obtain ⟨x0, g0⟩ := open_bytes (hval 0 27 v0 rfl rfl) h0
  obtain ⟨x1, rfl, rfl, rfl, g1⟩ := open_int Try.underlying3 (hval 1 3 v1 rfl rfl) h1
  exact framereads_walk _ _ x0 W g0 (i64_of_wf g1)
end Go.Proofs.Ytlnkhkkekfjebaa
