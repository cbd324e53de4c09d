/-
  Words, plain models, laws and walks that the claims of this layer share (joined by shake.py). No condition.
-/
import Derived.Deep.CutRange
import Derived.Test.YtdfojghhpdkpfaaGreatDoorA7
set_option linter.unusedSimpArgs false
set_option linter.unusedVariables false
namespace Go.Proofs.YtdfojghhpdkpfaaGreatDoor
open Go.RowKit
set_option maxRecDepth 100000 in
set_option maxHeartbeats 16000000 in
theorem choose_any (g t : Nat) (l : List PT) (w : World) (h : PS w g t l 0) : Calls Tryz.prog 83 #[pV g] w (DoP g t 0 (chooseT l) (StG w.heap.size) w) := by
  obtain ⟨X, hX⟩ : ∃ X, X = chooseT l := ⟨_, rfl⟩
  rw [← hX]
  rw [choose_eq, items_eq] at hX
  have HX := Lib.hid hX
  obtain ⟨zg3, zg4, zg5⟩ := h.lt3
  have HSH := Lib.hid h.short
  have hS0 := ((Same.refl (fun _ => True) w).alloc (.cells zst.toArray 44)).alloc (.cells ([.int .i64 1, .string ⟨#[]⟩, .slice none 0 0, .slice none 0 0, .slice none 0 0, .bool false, .int .i64 0, .string ⟨#[]⟩, .int .i64 0, .int .i64 0, .string ⟨#[]⟩, .slice none 0 0, .string ⟨#[]⟩, .bool false, .int .i64 (-1)] : List Value).toArray 44)
  have hR2 := Row.new (w.alloc (.cells zst.toArray 44)) 44 ([.int .i64 1, .string ⟨#[]⟩, .slice none 0 0, .slice none 0 0, .slice none 0 0, .bool false, .int .i64 0, .string ⟨#[]⟩, .int .i64 0, .int .i64 0, .string ⟨#[]⟩, .slice none 0 0, .string ⟨#[]⟩, .bool false, .int .i64 (-1)] : List Value)
  have hz0 : ((w.alloc (.cells zst.toArray 44)).alloc (.cells ([.int .i64 1, .string ⟨#[]⟩, .slice none 0 0, .slice none 0 0, .slice none 0 0, .bool false, .int .i64 0, .string ⟨#[]⟩, .int .i64 0, .int .i64 0, .string ⟨#[]⟩, .slice none 0 0, .string ⟨#[]⟩, .bool false, .int .i64 (-1)] : List Value).toArray 44)).heap.size = w.heap.size + 2 := by simp
  have HRR := Lib.hid ((Row.new w 44 zst).keep ((Same.refl (fun _ => True) _).alloc (.cells ([.int .i64 1, .string ⟨#[]⟩, .slice none 0 0, .slice none 0 0, .slice none 0 0, .bool false, .int .i64 0, .string ⟨#[]⟩, .int .i64 0, .int .i64 0, .string ⟨#[]⟩, .slice none 0 0, .string ⟨#[]⟩, .bool false, .int .i64 (-1)] : List Value).toArray 44)) trivial)
  rw [World.size_alloc] at hR2
  have HR := Lib.hid hR2
  have HP := Lib.hid (h.keep hS0)
  have HS := Lib.hid (hS0.mono (S' := fun q => q ≠ g) fun _ _ _ => trivial)
  clear h hX hS0 hR2
  go_enter Tryz.func83, Tryz.ntmps83
  go_upto_region 2 with (fail)
  simp only [zst] at HRR HR HP HS hz0
  revert HRR HR HP HS hz0
  generalize (w.alloc _).alloc _ = w0
  intro hz0 HRR HR HP HS
  obtain ⟨gs, hgs⟩ : ∃ gs, gs = w.heap.size + 1 := ⟨_, rfl⟩
  rw [← hgs] at HR ⊢
  have hg1 : w.heap.size < gs := by omega
  have hg2 : gs < w0.heap.size := by omega
  have hgG : g < gs := by omega
  have HLG : Hid (g < gs ∧ t < gs ∧ 1 < gs) := Lib.hid ⟨by omega, by omega, by omega⟩
  clear hgs hz0
  go_wp2_with (go_at_call 37; refine stopAt ?_)
  unfold Hid
  refine (take_any g t l 0 [42] _ HP.out).mono ?_
  rintro e w1 ⟨rfl, hp, hS⟩
  have hSz := hS.size
  have HR := Lib.hid (HR.out.keep hS (by omega))
  have HRR := Lib.hid (HRR.out.keep hS (by omega))
  have HS := Lib.hid (HS.out.trans hS)
  have HP := Lib.hid hp
  clear hp hS
  go_upto_if 6 with (fail)
  go_cut [] from 6 to 37 (fun wx => ∃ (W : World) (A : Option Addr) (c : Nat) (its : List Itm) (lt : List PT), W = wx ∧ X = chooseF its lt ∧ LsR itCs 7 itOk W (fun q => gs < q) (.slice A its.length c) its ∧ Row W gs 44 [.int .i64 1, .string ⟨#[]⟩, .slice A its.length c, .slice none 0 0, .slice none 0 0, .bool false, .int .i64 0, .string ⟨#[]⟩, .int .i64 0, .int .i64 0, .string ⟨#[]⟩, .slice none 0 0, .string ⟨#[]⟩, .bool false, .int .i64 (-1)] ∧ PS W g t lt 0 ∧ Row W w.heap.size 44 [.int .i64 0, .string ⟨#[]⟩, .slice none 0 0, .slice none 0 0, .slice none 0 0, .bool false, .int .i64 0, .string ⟨#[]⟩, .int .i64 0, .int .i64 0, .string ⟨#[]⟩, .slice none 0 0, .string ⟨#[]⟩, .bool false, .int .i64 0] ∧ Same (fun q => q ≠ g) w W)
  case first =>
    cases hq : isT [42] l
    · have hp := HP.out
      rw [hq, if_neg (by simp)] at hp
      have HP := Lib.hid hp
      have hX := HX.out
      rw [hq, if_neg (by simp)] at hX
      have HX := Lib.hid hX
      clear hX
      have HQ := Lib.hid hq
      clear hq hp
      have hX := HX.out
      rw [then_assoc] at hX
      have HX := Lib.hid hX
      clear hX
      go_wp2_with (go_at_call 111; refine stopAt ?_)
      unfold Hid
      refine (item_any g t l w1 HP.out).mono ?_
      intro e w2 hR_
      cases hx : itemT l with
      | error p =>
        rw [hx] at hR_
        obtain ⟨rfl, hE⟩ := hR_
        have hq : DoP g t 0 X (StG w.heap.size) w (.panicked [{ v := failV p.1 p.2, recovered := false }]) w2 := by
          rw [HX.out, hx]
          exact ⟨rfl, HS.out.trans hE⟩
        exact ⟨rfl, hq⟩
      | ok q =>
        obtain ⟨y, l2⟩ := q
        rw [hx] at hR_
        obtain ⟨v, rfl, ⟨u, rfl, hex⟩, hp, hS⟩ := hR_
        have hX := HX.out
        rw [hx, thenT_ok] at hX
        have HX := Lib.hid hX
        clear hX hx
        have hSz := hS.size
        have HR := Lib.hid (HR.out.keep hS (by omega))
        have HRR := Lib.hid (HRR.out.keep hS (by omega))
        have HS := Lib.hid (HS.out.trans hS)
        have HP := Lib.hid hp
        clear hp hS
        have HEX := Lib.hid hex
        clear hex
        obtain ⟨Au, cu, rfl, -, -⟩ := (show ExR _ _ _ _ from HEX.out).toL.form
        have hO1 := OwnL.one (B := gs + 1) (e := 63) itCs_len itK (show itOk w2 (fun q => gs + 1 ≤ q) (.slice Au y.e.args.length cu) y from ExR.mono HEX.out fun q _ (h : w1.heap.size ≤ q) => by omega) (by omega)
        have hSA := (Same.refl (fun _ => True) w2).alloc (.cells (itCs (.slice Au y.e.args.length cu, y)).toArray 63)
        have hzA : (w2.alloc (.cells (itCs (.slice Au y.e.args.length cu, y)).toArray 63)).heap.size = w2.heap.size + 1 := by simp
        have hp2 := HP.out.keep hSA
        have hSH := HP.out.short
        have hSA := hSA.mono (S' := fun q => q ≠ g) fun _ _ _ => trivial
        have hr2 := HR.out.keep hSA (by omega)
        have hrr2 := HRR.out.keep hSA (by omega)
        have hss2 := HS.out.trans hSA
        have HO1 := Lib.hid hO1
        have HP := Lib.hid hp2
        have HR := Lib.hid hr2
        have HRR := Lib.hid hrr2
        have HS := Lib.hid hss2
        have HSH2 := Lib.hid hSH
        clear hO1 hp2 hr2 hrr2 hss2 hSA hSH
        have hr := HR.out
        have c_ := hr.cell 2
        simp only [List.getElem?_cons_zero, List.getElem?_cons_succ] at c_
        have f_ := hr.frozen 2
        have zr := hr.lt
        have hsz := size_set (w2.alloc (.cells (itCs (.slice Au y.e.args.length cu, y)).toArray 63)) ⟨gs, 2, none⟩ (.slice (some ⟨w2.heap.size, 0, none⟩) 1 1)
        have hss : Same (fun q => q ≠ gs) (w2.alloc (.cells (itCs (.slice Au y.e.args.length cu, y)).toArray 63)) ((w2.alloc (.cells (itCs (.slice Au y.e.args.length cu, y)).toArray 63)).setCell ⟨gs, 2, none⟩ (.slice (some ⟨w2.heap.size, 0, none⟩) 1 1)) := (Same.refl _ _).setCell (fun _ h => h rfl) _
        have HR : Hid (Row ((w2.alloc (.cells (itCs (.slice Au y.e.args.length cu, y)).toArray 63)).setCell ⟨gs, 2, none⟩ (.slice (some ⟨w2.heap.size, 0, none⟩) 1 1)) gs 44 [.int .i64 1, .string ⟨#[]⟩, .slice (some ⟨w2.heap.size, 0, none⟩) 1 1, .slice none 0 0, .slice none 0 0, .bool false, .int .i64 0, .string ⟨#[]⟩, .int .i64 0, .int .i64 0, .string ⟨#[]⟩, .slice none 0 0, .string ⟨#[]⟩, .bool false, .int .i64 (-1)]) := Lib.hid (hr.set_ 2 (.slice (some ⟨w2.heap.size, 0, none⟩) 1 1))
        have HP := Lib.hid (HP.out.keepB hss (by omega) (by omega) (by omega))
        have HRR := Lib.hid (HRR.out.keep hss (by omega))
        have HO1 := Lib.hid (HO1.out.keep itK hss fun q hq _ => by omega)
        have HS := Lib.hid (HS.out.trans' hss fun q hq _ => by omega)
        clear hr hss
        simp only [itCs, exCs] at c_ f_ zr HO1 HP HR HRR HS hsz hzA
        go_wp2
        revert hsz HR HP HRR HO1 HS
        generalize (w2.alloc _).setCell _ _ = wl
        intro hsz HR HP HRR HO1 HS
        clear c_ f_ zr
        go_loopw [] (fun wr => ∃ (k : Nat) (acc : List Itm) (l' : List PT) (A : Option Addr) (c : Nat), X = thenT (sepT (isT [44]) itemT itemB 6 k acc l') chooseF ∧ l'.length ≤ k ∧ acc.length + l'.length ≤ 1000001 ∧ OwnL itCs 7 63 itOk wr (gs + 1) (.slice A acc.length c) acc ∧ Row wr gs 44 [.int .i64 1, .string ⟨#[]⟩, .slice A acc.length c, .slice none 0 0, .slice none 0 0, .bool false, .int .i64 0, .string ⟨#[]⟩, .int .i64 0, .int .i64 0, .string ⟨#[]⟩, .slice none 0 0, .string ⟨#[]⟩, .bool false, .int .i64 (-1)] ∧ PS wr g t l' 0 ∧ Row wr w.heap.size 44 [.int .i64 0, .string ⟨#[]⟩, .slice none 0 0, .slice none 0 0, .slice none 0 0, .bool false, .int .i64 0, .string ⟨#[]⟩, .int .i64 0, .int .i64 0, .string ⟨#[]⟩, .slice none 0 0, .string ⟨#[]⟩, .bool false, .int .i64 0] ∧ Same (fun q => q ≠ g) w wr) (fun wr => tokLen wr g)
        case atStart => exact ⟨_, [y], l2, _, 1, HX.out, Nat.le_refl _, by have := HSH2.out; simp; omega, HO1.out, HR.out, HP.out, HRR.out, HS.out⟩
        case round =>
          clear HX HP HO1 HS HR HRR
          obtain ⟨k, acc, l', A, c, hX, hlk, hal, hov, hr, hp, hrr, hS⟩ := hrel
          obtain ⟨hv1, hv2⟩ : acc.length ≤ c ∧ c ≤ maxLen := by
            obtain ⟨A', c', e', q1, q2⟩ := hov.form
            injection e' with e1 e2 e3
            subst e3
            exact ⟨q1, q2⟩
          have hpos := hp.end_.pos
          obtain ⟨k', rfl⟩ : ∃ k', k = k' + 1 := ⟨k - 1, by omega⟩
          unfold sepT at hX
          unfold maxLen at hv2
          have HX := Lib.hid hX
          have HLK := Lib.hid hlk
          have HAL := Lib.hid hal
          have HOV := Lib.hid hov
          have HP := Lib.hid hp
          have HPr := HP
          have HR := Lib.hid hr
          have HRR := Lib.hid hrr
          have HS := Lib.hid hS
          have hWz := hr.lt
          clear hX hlk hal hov hp hS hr hrr
          go_wp2_with (go_at_call 37; refine stopAt ?_)
          unfold Hid
          refine (take_any g t l' 0 [44] _ HP.out).mono ?_
          rintro e w3 ⟨rfl, hp, hS⟩
          have hSz := hS.size
          have HR := Lib.hid (HR.out.keep hS (by omega))
          have HRR := Lib.hid (HRR.out.keep hS (by omega))
          have HOV := Lib.hid (HOV.out.keep itK hS fun q hq _ => by omega)
          have HS := Lib.hid (HS.out.trans hS)
          have HP := Lib.hid hp
          clear hp hS
          cases hq : isT [44] l'
          · have hp := HP.out
            rw [hq, if_neg (by simp)] at hp
            have HP := Lib.hid hp
            have hX := HX.out
            rw [hq, if_neg (by simp)] at hX
            have HX := Lib.hid hX
            clear hX
            have HQ := Lib.hid hq
            clear hq hp
            have hX := HX.out
            rw [thenT_ok] at hX
            have HX := Lib.hid hX
            clear hX
            have HI := Lib.hid ((HOV.out.ls itK itCs_len).mono itK (by omega) (S' := fun q => gs < q) fun q _ (h : gs + 1 ≤ q) => h)
            go_wp2
            go_meet
            case rel => exact ⟨_, A, c, acc, l', rfl, HX.out, HI.out, HR.out, HP.out, HRR.out, HS.out⟩
          · have hp := HP.out
            rw [hq, if_pos rfl] at hp
            have HP := Lib.hid hp
            have hX := HX.out
            rw [hq, if_pos rfl] at hX
            have HX := Lib.hid hX
            clear hX
            have HQ := Lib.hid hq
            clear hq hp
            have htl := HPr.out.end_.tail (isT_kind HQ.out)
            have HTL := Lib.hid htl
            clear htl
            go_upto_region 6 with (fail)
            go_cut [28] from 14 to 37 (fun v wx => ∃ (W : World) (b : Bool), W = wx ∧ v = .bool b ∧ Hid (b = (itemB l'.tail && decide (acc.length = 6))) ∧ OwnL itCs 7 63 itOk W (gs + 1) (.slice A acc.length c) acc ∧ Row W gs 44 [.int .i64 1, .string ⟨#[]⟩, .slice A acc.length c, .slice none 0 0, .slice none 0 0, .bool false, .int .i64 0, .string ⟨#[]⟩, .int .i64 0, .int .i64 0, .string ⟨#[]⟩, .slice none 0 0, .string ⟨#[]⟩, .bool false, .int .i64 (-1)] ∧ PS W g t l'.tail 0 ∧ Row W w.heap.size 44 [.int .i64 0, .string ⟨#[]⟩, .slice none 0 0, .slice none 0 0, .slice none 0 0, .bool false, .int .i64 0, .string ⟨#[]⟩, .int .i64 0, .int .i64 0, .string ⟨#[]⟩, .slice none 0 0, .string ⟨#[]⟩, .bool false, .int .i64 0] ∧ Same (fun q => q ≠ g) w W)
            case first =>
              go_wp2_with (go_at_call 112; refine stopAt ?_)
              unfold Hid
              refine (leads_any g t l'.tail 0 _ HP.out).mono ?_
              rintro e w4 ⟨rfl, hS⟩
              have hp := HP.out.keep hS
              have hS := hS.mono (S' := fun q => q ≠ g) fun _ _ _ => trivial
              have hSz := hS.size
              have HR := Lib.hid (HR.out.keep hS (by omega))
              have HRR := Lib.hid (HRR.out.keep hS (by omega))
              have HOV := Lib.hid (HOV.out.keep itK hS fun q hq _ => by omega)
              have HS := Lib.hid (HS.out.trans hS)
              have HP := Lib.hid hp
              clear hp hS
              cases hb : leadsT l'.tail
              · have HB1 := Lib.hid hb
                clear hb
                go_wp2_with (go_at_call 38; refine stopAt ?_)
                unfold Hid
                refine (begins_at g t l'.tail 0 [wCOUNT, wSUM] _ HP.out).mono ?_
                rintro e w5 ⟨rfl, hS⟩
                have hp := HP.out.keep hS
                have hS := hS.mono (S' := fun q => q ≠ g) fun _ _ _ => trivial
                have hSz := hS.size
                have HR := Lib.hid (HR.out.keep hS (by omega))
                have HRR := Lib.hid (HRR.out.keep hS (by omega))
                have HOV := Lib.hid (HOV.out.keep itK hS fun q hq _ => by omega)
                have HS := Lib.hid (HS.out.trans hS)
                have HP := Lib.hid hp
                clear hp hS
                cases hc : beginsT [wCOUNT, wSUM] l'.tail
                · have HB : Hid (itemB l'.tail = false) := Lib.hid (by unfold itemB; rw [HB1.out, hc]; rfl)
                  clear hc
                  have hr := HR.out
                  have c2_ := hr.cell 2
                  simp only [List.getElem?_cons_zero, List.getElem?_cons_succ] at c2_
                  clear hr
                  go_wp2
                  go_meet
                  case rel => exact ⟨_, _, rfl, rfl, Lib.hid (by rw [HB.out]; by_cases h6 : acc.length = 6 <;> simp [h6]; try omega), HOV.out, HR.out, HP.out, HRR.out, HS.out⟩
                · have HB : Hid (itemB l'.tail = true) := Lib.hid (by unfold itemB; rw [hc]; simp)
                  clear hc
                  have hr := HR.out
                  have c2_ := hr.cell 2
                  simp only [List.getElem?_cons_zero, List.getElem?_cons_succ] at c2_
                  clear hr
                  go_wp2
                  go_meet
                  case rel => exact ⟨_, _, rfl, rfl, Lib.hid (by rw [HB.out]; by_cases h6 : acc.length = 6 <;> simp [h6]; try omega), HOV.out, HR.out, HP.out, HRR.out, HS.out⟩
              · have HB : Hid (itemB l'.tail = true) := Lib.hid (by unfold itemB; rw [hb]; rfl)
                clear hb
                have hr := HR.out
                have c2_ := hr.cell 2
                simp only [List.getElem?_cons_zero, List.getElem?_cons_succ] at c2_
                clear hr
                go_wp2
                go_meet
                case rel => exact ⟨_, _, rfl, rfl, Lib.hid (by rw [HB.out]; by_cases h6 : acc.length = 6 <;> simp [h6]; try omega), HOV.out, HR.out, HP.out, HRR.out, HS.out⟩
            case rest =>
              obtain ⟨W4, b, rfl, rfl, Hb, hov, hr, hp, hrr, hS⟩ := hcut
              have HOV := Lib.hid hov
              have HR := Lib.hid hr
              have HP := Lib.hid hp
              have HRR := Lib.hid hrr
              have HS := Lib.hid hS
              have hWz4 := hr.lt
              clear hov hr hp hrr hS
              cases b
              · have hX := HX.out
                rw [← Hb.out, if_neg (by simp), then_assoc] at hX
                have HX := Lib.hid hX
                clear hX
                go_upto_region 8 with (fail)
                obtain ⟨x, hxe⟩ : ∃ x, x = itemT l'.tail := ⟨_, rfl⟩
                have Hxe := Lib.hid hxe
                have hX := HX.out
                rw [← hxe] at hX
                have HXr : Hid (∀ p, x = .error p → X = .error p) := Lib.hid fun p hp => by rw [hX, hp]; rfl
                have HXk : Hid (x = .ok (okA (⟨2, .zero⟩ : Itm) x, leftA x) → X = thenT (sepT (isT [44]) itemT itemB 6 k' (acc ++ [okA (⟨2, .zero⟩ : Itm) x]) (leftA x)) chooseF) := Lib.hid fun hp => by
                  rw [hX]
                  conv => lhs; rw [hp]
                  rfl
                have HS3 := HS
                have HO := HOV
                have HGw := Lib.hid HR.out.lt
                have HLEN : Hid (acc.length ≤ 1000000) := Lib.hid (by have := HAL.out; omega)
                have hAS : ∀ U, AppS itCs 7 63 itOk g t 0 gs 44 (.slice A acc.length c) acc (okA (⟨2, .zero⟩ : Itm) x) (fun z => [.int .i64 1, .string ⟨#[]⟩, z, .slice none 0 0, .slice none 0 0, .bool false, .int .i64 0, .string ⟨#[]⟩, .int .i64 0, .int .i64 0, .string ⟨#[]⟩, .slice none 0 0, .string ⟨#[]⟩, .bool false, .int .i64 (-1)]) (leftA x) l'.tail false false false U W4 := fun U => ⟨HP.out, fun _ => HR.out, fun _ => HO.out, fun h => (by cases h), fun h => (by cases h)⟩
                have HST : Hid (∀ U, AppS itCs 7 63 itOk g t 0 gs 44 (.slice A acc.length c) acc (okA (⟨2, .zero⟩ : Itm) x) (fun z => [.int .i64 1, .string ⟨#[]⟩, z, .slice none 0 0, .slice none 0 0, .bool false, .int .i64 0, .string ⟨#[]⟩, .int .i64 0, .int .i64 0, .string ⟨#[]⟩, .slice none 0 0, .string ⟨#[]⟩, .bool false, .int .i64 (-1)]) (leftA x) l'.tail false false false U W4.drew) := Lib.hid fun U => (hAS U).keep itK (Same.refl _ _).drew
                have HOW : Hid (∀ q, some q = Value.ownBlock (.slice A acc.length c) → q < W4.heap.size) := Lib.hid fun q e => (HO.out.ge e).2
                clear hX hxe hAS
                refine wp_region_full_lit (T := TA g (gs) (.slice A acc.length c)) (L := [some (.eq (.pointer (some ⟨gs, 2, none⟩))), some (.eq (.slice A acc.length c)), some (.eq (pV g)), some (RuA itK g (gs) (.slice A acc.length c) hgG (fun u => itV u (okA (⟨2, .zero⟩ : Itm) x)) (okA (⟨2, .zero⟩ : Itm) x) (x = .ok (okA (⟨2, .zero⟩ : Itm) x, leftA x))), some (BsA itCs 63 itK g (gs) (.slice A acc.length c) hgG ((okA (⟨2, .zero⟩ : Itm) x)) (x = .ok (okA (⟨2, .zero⟩ : Itm) x, leftA x))), some (ApA g (gs) (.slice A acc.length c) ((acc).length + 1) (x = .ok (okA (⟨2, .zero⟩ : Itm) x, leftA x))), some (.eq (.pointer (some ⟨gs, 2, none⟩))), none]) (fun f U W => AppS itCs 7 63 itOk g t 0 (gs) 44 (.slice A acc.length c) (acc) ((okA (⟨2, .zero⟩ : Itm) x)) (fun z => [.int .i64 1, .string ⟨#[]⟩, z, .slice none 0 0, .slice none 0 0, .bool false, .int .i64 0, .string ⟨#[]⟩, .int .i64 0, .int .i64 0, .string ⟨#[]⟩, .slice none 0 0, .string ⟨#[]⟩, .bool false, .int .i64 (-1)]) (leftA x) (l'.tail) (f 3) (f 5) (f 7) (U 5) W) (by kernel_rfl) (by kernel_rfl) (by rfl) rfl ?_ ?_ ?_
                · exact HST.out _
                · refine ⟨?_, ?_, ?_, ?_, ?_, ?_, ?_, ?_, trivial⟩
                  · intro ac wc f hs hst hni hwt hdn hd hz hf hw K hK
                    generalize hU : valF _ ac = U at hst hK
                    have e0 : ac.eval (.tmp 3) = (pV gs) := hf 3 rfl
                    clear hd hz hf hw
                    simp only [Region.wanted, if_true, Oper.wp, execOp, resolve, List.map_toArray, List.map_cons, List.map_nil, Option.map_some, Option.map_none, e0]
                    go_simp
                    exact hK _ _ (fun _ => rfl) (Same.refl _ _) hst
                  · intro ac wc f hs hst hni hwt hdn hd hz hf hw K hK
                    generalize hU : valF _ ac = U at hst hK
                    have e0 : ac.eval (.tmp 31) = (.pointer (some ⟨gs, 2, none⟩)) := hw 0 rfl
                    have h9 : f 7 = false := by
                      cases h : f 7 with
                      | false => rfl
                      | true =>
                        have q0 := hdn 7 5 rfl h
                        have q1 := hdn 5 1 rfl q0
                        rw [hni] at q1
                        cases q1
                    have hr_ := hst.2.1 h9
                    have m_ := hr_.cell 2
                    simp only [List.getElem?_cons_zero, List.getElem?_cons_succ] at m_
                    clear hr_
                    clear hd hz hf hw
                    simp only [Region.wanted, if_true, Oper.wp, execOp, resolve, List.map_toArray, List.map_cons, List.map_nil, Option.map_some, Option.map_none, e0]
                    go_simp
                    exact hK _ _ (fun _ => rfl) (Same.refl _ _) hst
                  · intro ac wc f hs hst hni hwt hdn hd hz hf hw K hK
                    generalize hU : valF _ ac = U at hst hK
                    have e0 : ac.eval (.tmp 0) = (pV g) := hf 0 rfl
                    clear hd hz hf hw
                    simp only [Region.wanted, if_true, Oper.wp, execOp, resolve, List.map_toArray, List.map_cons, List.map_nil, Option.map_some, Option.map_none, e0]
                    go_simp
                    exact hK _ _ (fun _ => rfl) (Same.refl _ _) hst
                  · intro ac wc f hs hst hni hwt hdn hd hz hf hw K hK
                    generalize hU : valF _ ac = U at hst hK
                    have e0 : ac.eval (.tmp 33) = (pV g) := hw 2 rfl
                    have Hdf := Lib.hid (show ac.defers = [] from hd)
                    have h7 : f 7 = false := by
                      cases h : f 7 with
                      | false => rfl
                      | true =>
                        have q0 := h
                        have q1 := hdn 7 5 rfl q0
                        have q2 := hdn 5 4 rfl q1
                        have q3 := hdn 4 3 rfl q2
                        rw [hni] at q3
                        cases q3
                    have h5 : f 5 = false := by
                      cases h : f 5 with
                      | false => rfl
                      | true =>
                        have q0 := h
                        have q1 := hdn 5 4 rfl q0
                        have q2 := hdn 4 3 rfl q1
                        rw [hni] at q2
                        cases q2
                    have hst2 : AppS itCs 7 63 itOk g t 0 (gs) 44 (.slice A acc.length c) (acc) ((okA (⟨2, .zero⟩ : Itm) x)) (fun z => [.int .i64 1, .string ⟨#[]⟩, z, .slice none 0 0, .slice none 0 0, .bool false, .int .i64 0, .string ⟨#[]⟩, .int .i64 0, .int .i64 0, .string ⟨#[]⟩, .slice none 0 0, .string ⟨#[]⟩, .bool false, .int .i64 (-1)]) (leftA x) (l'.tail) (false) (false) (false) (U 5) wc := by
                      have h := hst
                      simp only [hni, h5, h7] at h
                      exact h
                    have hps : PS wc g t (l'.tail) 0 := hst2.1
                    have HST2 := Lib.hid hst2
                    clear hd hz hf hw
                    simp only [Region.wanted, if_true, Oper.wp, execOp, resolve, List.map_toArray, List.map_cons, List.map_nil, Option.map_some, Option.map_none, e0]
                    go_simp
                    refine (item_any g t l'.tail wc hps).mono ?_
                    intro e wd h1
                    cases hx : itemT l'.tail with
                    | error p =>
                      rw [hx] at h1
                      obtain ⟨rfl, hSp⟩ := h1
                      have hq : DoP g t 0 X (StG w.heap.size) w (.panicked [{ v := failV p.1 p.2, recovered := false }]) wd := by
                        rw [HXr.out p (Hxe.out.trans hx)]
                        exact ⟨rfl, (HS3.out.trans' hs fun q hq h => ⟨h, by omega, fun e => by have := (HO.out.ge e).1; omega⟩).trans (hSp.mono fun q _ h => h)⟩
                      exact ⟨Hdf.out, hq⟩
                    | ok q =>
                      rw [hx] at h1
                      obtain ⟨v', rfl, ⟨u2, rfl, hex⟩, hp2, hS2⟩ := h1
                      have hxx : x = .ok (okA (⟨2, .zero⟩ : Itm) x, leftA x) := by rw [Hxe.out, hx]; rfl
                      have hx1 : okA (⟨2, .zero⟩ : Itm) x = q.1 := by rw [Hxe.out, hx]; rfl
                      have hx2 : leftA x = q.2 := by rw [Hxe.out, hx]; rfl
                      have hzc := hs.size
                      have hown := HST2.out.2.2.1 rfl
                      rw [← hx1] at hex
                      rw [← hx2] at hp2
                      refine hK _ _ (fun _ => ⟨u2, by rw [hx1], itK.mono hex fun k hk (h : wc.heap.size ≤ k) => ⟨by have := HGw.out; omega, fun e => by have := (hown.ge e).2; omega⟩, hxx⟩) (hS2.mono fun k hk h => h.1) ?_
                      show AppS itCs 7 63 itOk g t 0 (gs) 44 (.slice A acc.length c) (acc) ((okA (⟨2, .zero⟩ : Itm) x)) (fun z => [.int .i64 1, .string ⟨#[]⟩, z, .slice none 0 0, .slice none 0 0, .bool false, .int .i64 0, .string ⟨#[]⟩, .int .i64 0, .int .i64 0, .string ⟨#[]⟩, .slice none 0 0, .string ⟨#[]⟩, .bool false, .int .i64 (-1)]) (leftA x) (l'.tail) (true) (f 5) (f 7) (U 5) wd
                      rw [h5, h7]
                      exact AppS.call itK hgG HST2.out hp2 hS2
                  · intro ac wc f hs hst hni hwt hdn hd hz hf hw K hK
                    generalize hU : valF _ ac = U at hst hK
                    have p0 : (RuA itK g (gs) (.slice A acc.length c) hgG (fun u => itV u (okA (⟨2, .zero⟩ : Itm) x)) (okA (⟨2, .zero⟩ : Itm) x) (x = .ok (okA (⟨2, .zero⟩ : Itm) x, leftA x)) : SPT (TA g (gs) (.slice A acc.length c))).p (ac.eval (.tmp 34)) wc := hw 3 rfl
                    obtain ⟨u0, e0⟩ : ∃ u, ac.eval (.tmp 34) = u := ⟨_, rfl⟩
                    have v0 : U 3 = u0 := by rw [← hU]; exact e0
                    rw [e0] at p0
                    obtain ⟨u2, rfl, hex2, hxx⟩ := p0
                    obtain ⟨A2, c2, rfl, -, -⟩ := (show ExR _ _ _ _ from hex2).toL.form
                    have Hxx := Lib.hid hxx
                    have Hex2 := Lib.hid hex2
                    clear hxx hex2
                    clear hd hz hf hw
                    simp only [Region.wanted, if_true, Oper.wp, execOp, resolve, List.map_toArray, List.map_cons, List.map_nil, Option.map_some, Option.map_none, e0]
                    go_simp
                    have hzc := hs.size
                    have hsA := (Same.refl (fun _ => True) wc).alloc (.cells (itCs (.slice A2 (okA (⟨2, .zero⟩ : Itm) x).e.args.length c2, (okA (⟨2, .zero⟩ : Itm) x))).toArray 63)
                    have hsb : SA (gs) (.slice A acc.length c) wc.heap.size := ⟨by have := HGw.out; omega, fun e => by have := HOW.out _ e; omega⟩
                    exact hK _ _ (fun _ => ⟨_, _, rfl, Row.new wc 63 (itCs (.slice A2 (okA (⟨2, .zero⟩ : Itm) x).e.args.length c2, (okA (⟨2, .zero⟩ : Itm) x))), hsb, itK.keep Hex2.out (hsA.mono fun _ _ _ => trivial), Hxx.out⟩) ((Same.refl _ _).alloc _) (AppS.keep itK hst ((Same.refl _ _).alloc _))
                  · intro ac wc f hs hst hni hwt hdn hd hz hf hw K hK
                    generalize hU : valF _ ac = U at hst hK
                    have e0 : ac.eval (.tmp 32) = (.slice A acc.length c) := hw 1 rfl
                    have p1 : (BsA itCs 63 itK g (gs) (.slice A acc.length c) hgG ((okA (⟨2, .zero⟩ : Itm) x)) (x = .ok (okA (⟨2, .zero⟩ : Itm) x, leftA x)) : SPT (TA g (gs) (.slice A acc.length c))).p (ac.eval (.tmp 35)) wc := hw 4 rfl
                    obtain ⟨u1, e1⟩ : ∃ u, ac.eval (.tmp 35) = u := ⟨_, rfl⟩
                    have v1 : U 4 = u1 := by rw [← hU]; exact e1
                    rw [e1] at p1
                    have d4 : f 4 = true := hwt 4 rfl
                    have d3 : f 3 = true := hdn 4 3 rfl d4
                    have h7 : f 7 = false := by
                      cases h : f 7 with
                      | false => rfl
                      | true =>
                        have q0 := h
                        have q1 := hdn 7 5 rfl q0
                        rw [hni] at q1
                        cases q1
                    obtain ⟨b, u2, rfl, hrow, hb, hex2, hxx⟩ := p1
                    have hst2 : AppS itCs 7 63 itOk g t 0 (gs) 44 (.slice A acc.length c) (acc) ((okA (⟨2, .zero⟩ : Itm) x)) (fun z => [.int .i64 1, .string ⟨#[]⟩, z, .slice none 0 0, .slice none 0 0, .bool false, .int .i64 0, .string ⟨#[]⟩, .int .i64 0, .int .i64 0, .string ⟨#[]⟩, .slice none 0 0, .string ⟨#[]⟩, .bool false, .int .i64 (-1)]) (leftA x) (l'.tail) (true) (false) (false) (U 5) wc := by
                      have h := hst
                      simp only [hni, d3, h7] at h
                      exact h
                    have hzc := hs.size
                    refine step_appZ TIt itCs_len itK rfl (.tmp 32) (.tmp 35) rfl (hst2.2.2.1 rfl) u2 ((okA (⟨2, .zero⟩ : Itm) x)) (itOne hex2) e0 e1 hrow hex2 (by have := HGw.out; omega) (by have := HLEN.out; omega) (by omega) ?_
                    intro v' wd hO hS2
                    have hK2 := hK v' wd (fun _ => ⟨by obtain ⟨A2, c2, h2, -, -⟩ := hO.form; exact ⟨A2, c2, by rw [h2, List.length_append]; rfl⟩, hxx⟩) (hS2.mono fun q _ h => h.2.2)
                    refine hK2 ?_
                    show AppS itCs 7 63 itOk g t 0 (gs) 44 (.slice A acc.length c) (acc) ((okA (⟨2, .zero⟩ : Itm) x)) (fun z => [.int .i64 1, .string ⟨#[]⟩, z, .slice none 0 0, .slice none 0 0, .bool false, .int .i64 0, .string ⟨#[]⟩, .int .i64 0, .int .i64 0, .string ⟨#[]⟩, .slice none 0 0, .string ⟨#[]⟩, .bool false, .int .i64 (-1)]) (leftA x) (l'.tail) (f 3) (true) (f 7) (v') wd
                    rw [d3, h7]
                    exact AppS.app HLG.out hst2 hO hS2
                  · intro ac wc f hs hst hni hwt hdn hd hz hf hw K hK
                    generalize hU : valF _ ac = U at hst hK
                    have e0 : ac.eval (.tmp 3) = (pV gs) := hf 3 rfl
                    clear hd hz hf hw
                    simp only [Region.wanted, if_true, Oper.wp, execOp, resolve, List.map_toArray, List.map_cons, List.map_nil, Option.map_some, Option.map_none, e0]
                    go_simp
                    exact hK _ _ (fun _ => rfl) (Same.refl _ _) hst
                  · intro ac wc f hs hst hni hwt hdn hd hz hf hw K hK
                    generalize hU : valF _ ac = U at hst hK
                    have p0 : (ApA g (gs) (.slice A acc.length c) ((acc).length + 1) (x = .ok (okA (⟨2, .zero⟩ : Itm) x, leftA x)) : SPT (TA g (gs) (.slice A acc.length c))).p (ac.eval (.tmp 36)) wc := hw 5 rfl
                    obtain ⟨u0, e0⟩ : ∃ u, ac.eval (.tmp 36) = u := ⟨_, rfl⟩
                    have v0 : U 5 = u0 := by rw [← hU]; exact e0
                    rw [e0] at p0
                    have e1 : ac.eval (.tmp 37) = (.pointer (some ⟨gs, 2, none⟩)) := hw 6 rfl
                    have d5 : f 5 = true := hwt 5 rfl
                    have d4 : f 4 = true := hdn 5 4 rfl d5
                    have d3 : f 3 = true := hdn 4 3 rfl d4
                    obtain ⟨⟨A2, c2, rfl⟩, hxx⟩ := p0
                    have Hxx := Lib.hid hxx
                    have hst2 : AppS itCs 7 63 itOk g t 0 (gs) 44 (.slice A acc.length c) (acc) ((okA (⟨2, .zero⟩ : Itm) x)) (fun z => [.int .i64 1, .string ⟨#[]⟩, z, .slice none 0 0, .slice none 0 0, .bool false, .int .i64 0, .string ⟨#[]⟩, .int .i64 0, .int .i64 0, .string ⟨#[]⟩, .slice none 0 0, .string ⟨#[]⟩, .bool false, .int .i64 (-1)]) (leftA x) (l'.tail) (true) (true) (false) (.slice A2 ((acc).length + 1) c2) wc := by
                      have h := hst
                      rw [d3, d5, hni, v0] at h
                      exact h
                    have hr_ := hst2.2.1 rfl
                    have m_ := hr_.cell 2
                    simp only [List.getElem?_cons_zero, List.getElem?_cons_succ] at m_
                    have n_ := hr_.frozen 2
                    have zr := hr_.lt
                    have HST2 := Lib.hid hst2
                    clear hr_ hst2 hxx
                    clear hd hz hf hw
                    simp only [Region.wanted, if_true, Oper.wp, execOp, resolve, List.map_toArray, List.map_cons, List.map_nil, Option.map_some, Option.map_none, e0, e1]
                    go_simp
                    obtain ⟨k1, k2⟩ := AppS.store itK HLG.out HST2.out 2 rfl
                    refine hK undef _ (fun h => (by cases h)) k2 ?_
                    show AppS itCs 7 63 itOk g t 0 (gs) 44 (.slice A acc.length c) (acc) ((okA (⟨2, .zero⟩ : Itm) x)) (fun z => [.int .i64 1, .string ⟨#[]⟩, z, .slice none 0 0, .slice none 0 0, .bool false, .int .i64 0, .string ⟨#[]⟩, .int .i64 0, .int .i64 0, .string ⟨#[]⟩, .slice none 0 0, .string ⟨#[]⟩, .bool false, .int .i64 (-1)]) (leftA x) (l'.tail) (f 3) (f 5) (true) (U 5) _
                    rw [d3, d5, v0]
                    exact k1
                · intro vs wR f hvl hvp hsR hst hfR
                  rcases vs with _ | ⟨z0, _ | ⟨z1, _ | ⟨z2, _ | ⟨z3, _ | ⟨z4, _ | ⟨z5, _ | ⟨z6, _ | ⟨z7, _ | ⟨zz, zr⟩⟩⟩⟩⟩⟩⟩⟩⟩
                  rotate_right 1
                  · simp at hvl
                  · simp at hvl
                  · simp at hvl
                  · simp at hvl
                  · simp at hvl
                  · simp at hvl
                  · simp at hvl
                  · simp at hvl
                  · simp at hvl
                  · obtain rfl : z0 = (.pointer (some ⟨gs, 2, none⟩)) := hvp 0 (by simp)
                    obtain rfl : z1 = (.slice A acc.length c) := hvp 1 (by simp)
                    obtain rfl : z2 = (pV g) := hvp 2 (by simp)
                    have hru : (RuA itK g (gs) (.slice A acc.length c) hgG (fun u => itV u (okA (⟨2, .zero⟩ : Itm) x)) (okA (⟨2, .zero⟩ : Itm) x) (x = .ok (okA (⟨2, .zero⟩ : Itm) x, leftA x)) : SPT (TA g (gs) (.slice A acc.length c))).p z3 wR := hvp 3 (by simp)
                    have hsb : (BsA itCs 63 itK g (gs) (.slice A acc.length c) hgG ((okA (⟨2, .zero⟩ : Itm) x)) (x = .ok (okA (⟨2, .zero⟩ : Itm) x, leftA x)) : SPT (TA g (gs) (.slice A acc.length c))).p z4 wR := hvp 4 (by simp)
                    have hap : (ApA g (gs) (.slice A acc.length c) ((acc).length + 1) (x = .ok (okA (⟨2, .zero⟩ : Itm) x, leftA x)) : SPT (TA g (gs) (.slice A acc.length c))).p z5 wR := hvp 5 (by simp)
                    obtain rfl : z6 = (.pointer (some ⟨gs, 2, none⟩)) := hvp 6 (by simp)
                    clear hvl hvp
                    simp only [putAll, Act.put, List.setIfInBounds_toArray, List.set_cons_succ, List.set_cons_zero, List.take_succ_cons, List.take_zero, List.drop_succ_cons, List.drop_zero]
                    clear hru hsb
                    have hst := hst
                    rw [hfR 3, hfR 5, hfR 7] at hst
                    obtain ⟨⟨A9, c9, rfl⟩, hxx⟩ := hap
                    obtain ⟨k1, -, -, k2, k3⟩ := hst
                    have hp : PS wR g t (leftA x) 0 := k1
                    have HP9 := Lib.hid hp
                    have HO9 := Lib.hid (k2 rfl)
                    have HR9 := Lib.hid (k3 rfl)
                    have hfit := item_fit l'.tail HTL.out.1 _ _ (Hxe.out.symm.trans hxx)
                    have HX9 := Lib.hid (HXk.out hxx)
                    have HRR9 := Lib.hid (HRR.out.keep hsR ⟨by omega, by omega, fun e => by have := (HO.out.ge e).1; omega⟩)
                    have HS9 := Lib.hid (HS.out.trans' hsR fun q hq h => ⟨h, by omega, fun e => by have := (HO.out.ge e).1; omega⟩)
                    have hl1 : (leftA x).length ≤ k' := by have := hfit.2; have := HTL.out.2; have := HLK.out; omega
                    have hl2 : (acc ++ [okA (⟨2, .zero⟩ : Itm) x]).length + (leftA x).length ≤ 1000001 := by have := hfit.2; have := HTL.out.2; have := HAL.out; rw [List.length_append, List.length_singleton]; omega
                    have hl3 : (leftA x).length < l'.length := by have := hfit.2; have := HTL.out.2; omega
                    have hla := HP9.out.len
                    have hlb := HPr.out.len
                    have hlen : (acc ++ [okA (⟨2, .zero⟩ : Itm) x]).length = acc.length + 1 := by rw [List.length_append, List.length_singleton]
                    have HO9 : Hid (OwnL itCs 7 63 itOk wR (gs + 1) (.slice A9 (acc ++ [okA (⟨2, .zero⟩ : Itm) x]).length c9) (acc ++ [okA (⟨2, .zero⟩ : Itm) x])) := Lib.hid (by rw [hlen]; exact HO9.out)
                    have HR9 : Hid (Row wR gs 44 [.int .i64 1, .string ⟨#[]⟩, .slice A9 (acc ++ [okA (⟨2, .zero⟩ : Itm) x]).length c9, .slice none 0 0, .slice none 0 0, .bool false, .int .i64 0, .string ⟨#[]⟩, .int .i64 0, .int .i64 0, .string ⟨#[]⟩, .slice none 0 0, .string ⟨#[]⟩, .bool false, .int .i64 (-1)]) := Lib.hid (by rw [hlen]; exact HR9.out)
                    clear k1 k2 k3 hp hxx hfit hlen
                    go_wp2
                    go_roundw
                    case rel => exact ⟨k', acc ++ [okA (⟨2, .zero⟩ : Itm) x], leftA x, A9, c9, HX9.out, hl1, hl2, HO9.out, HR9.out, HP9.out, HRR9.out, HS9.out⟩
                    case measure => omega
              · have hX := HX.out
                rw [← Hb.out, if_pos rfl] at hX
                have HX := Lib.hid hX
                clear hX
                go_wp2_with (go_at_call 39; refine stopAt ?_)
                unfold Hid
                refine (wrong_any g t l'.tail 0 3 _ HP.out).mono ?_
                rintro e w5 ⟨rfl, hE⟩
                have hq : DoP g t 0 X (StG w.heap.size) w (.panicked [{ v := failV (hdT l'.tail).1 3, recovered := false }]) w5 := by
                  rw [HX.out]
                  exact ⟨rfl, HS.out.trans hE⟩
                exact ⟨rfl, hq⟩
    · have hp := HP.out
      rw [hq, if_pos rfl] at hp
      have HP := Lib.hid hp
      have hX := HX.out
      rw [hq, if_pos rfl] at hX
      have HX := Lib.hid hX
      clear hX
      have HQ := Lib.hid hq
      clear hq hp
      have hX := HX.out
      rw [thenT_ok] at hX
      have HX := Lib.hid hX
      clear hX
      have hE0 : ExR w1 (fun q => gs + 1 ≤ q) (.slice none 0 0) (⟨1, .zero⟩ : Itm).e := ExR.lf _ _ _ _ _
      have hO := OwnL.one (B := gs + 1) (e := 63) itCs_len itK hE0 (by omega)
      have hls := (hO.ls itK itCs_len).mono itK (by omega) (S' := fun q => gs < q) fun q _ (h : gs + 1 ≤ q) => h
      have hsA1 := (Same.refl (fun _ => True) w1).alloc (.cells (itCs (.slice none 0 0, (⟨1, .zero⟩ : Itm))).toArray 63)
      have hzA : (w1.alloc (.cells #[.int .i64 1, .int .i64 0, .string ⟨#[]⟩, .int .i64 0, .int .i64 0, .string ⟨#[]⟩, .slice none 0 0] 63)).heap.size = w1.heap.size + 1 := by simp
      have hsA : Same (fun q => q ≠ g) w1 (w1.alloc (.cells #[.int .i64 1, .int .i64 0, .string ⟨#[]⟩, .int .i64 0, .int .i64 0, .string ⟨#[]⟩, .slice none 0 0] 63)) := hsA1.mono (S' := fun q => q ≠ g) fun _ _ _ => trivial
      have hp : PS (w1.alloc (.cells #[.int .i64 1, .int .i64 0, .string ⟨#[]⟩, .int .i64 0, .int .i64 0, .string ⟨#[]⟩, .slice none 0 0] 63)) g t l.tail 0 := HP.out.keepB hsA1 trivial trivial trivial
      have hr := HR.out.keep hsA (by omega)
      have HRR := Lib.hid (HRR.out.keep hsA (by omega))
      have HS := Lib.hid (HS.out.trans hsA)
      have HP := Lib.hid hp
      have HR := Lib.hid hr
      have HI : Hid (LsR itCs 7 itOk (w1.alloc (.cells #[.int .i64 1, .int .i64 0, .string ⟨#[]⟩, .int .i64 0, .int .i64 0, .string ⟨#[]⟩, .slice none 0 0] 63)) (fun q => gs < q) (.slice (some ⟨w1.heap.size, 0, none⟩) 1 1) [(⟨1, .zero⟩ : Itm)]) := Lib.hid hls
      clear hE0 hO hls hsA hp hr hsA1
      have hr := HR.out
      have c_ := hr.cell 2
      simp only [List.getElem?_cons_zero, List.getElem?_cons_succ] at c_
      have f_ := hr.frozen 2
      have zr := hr.lt
      have hsz := size_set (w1.alloc (.cells #[.int .i64 1, .int .i64 0, .string ⟨#[]⟩, .int .i64 0, .int .i64 0, .string ⟨#[]⟩, .slice none 0 0] 63)) ⟨gs, 2, none⟩ (.slice (some ⟨w1.heap.size, 0, none⟩) 1 1)
      have hss : Same (fun q => q ≠ gs) (w1.alloc (.cells #[.int .i64 1, .int .i64 0, .string ⟨#[]⟩, .int .i64 0, .int .i64 0, .string ⟨#[]⟩, .slice none 0 0] 63)) ((w1.alloc (.cells #[.int .i64 1, .int .i64 0, .string ⟨#[]⟩, .int .i64 0, .int .i64 0, .string ⟨#[]⟩, .slice none 0 0] 63)).setCell ⟨gs, 2, none⟩ (.slice (some ⟨w1.heap.size, 0, none⟩) 1 1)) := (Same.refl _ _).setCell (fun _ h => h rfl) _
      have HR : Hid (Row ((w1.alloc (.cells #[.int .i64 1, .int .i64 0, .string ⟨#[]⟩, .int .i64 0, .int .i64 0, .string ⟨#[]⟩, .slice none 0 0] 63)).setCell ⟨gs, 2, none⟩ (.slice (some ⟨w1.heap.size, 0, none⟩) 1 1)) gs 44 [.int .i64 1, .string ⟨#[]⟩, .slice (some ⟨w1.heap.size, 0, none⟩) 1 1, .slice none 0 0, .slice none 0 0, .bool false, .int .i64 0, .string ⟨#[]⟩, .int .i64 0, .int .i64 0, .string ⟨#[]⟩, .slice none 0 0, .string ⟨#[]⟩, .bool false, .int .i64 (-1)]) := Lib.hid (hr.set_ 2 (.slice (some ⟨w1.heap.size, 0, none⟩) 1 1))
      have HP := Lib.hid (HP.out.keepB hss (by omega) (by omega) (by omega))
      have HRR := Lib.hid (HRR.out.keep hss (by omega))
      have HI := Lib.hid (HI.out.keep itK (hss.mono fun q _ (h : gs < q) => by omega))
      have HS := Lib.hid (HS.out.trans' hss fun q hq _ => by omega)
      clear hr hss
      go_wp2
      go_meet
      case rel => exact ⟨_, _, 1, [(⟨1, .zero⟩ : Itm)], _, rfl, HX.out, HI.out, HR.out, HP.out, HRR.out, HS.out⟩
  case rest =>
    obtain ⟨W, A, c, its, lt, rfl, hX, hi, hr, hp, hrr, hS⟩ := hcut
    have HX := Lib.hid hX
    have HI := Lib.hid hi
    have HR := Lib.hid hr
    have HP := Lib.hid hp
    have HRR := Lib.hid hrr
    have HS := Lib.hid hS
    have hWz := hr.lt
    obtain ⟨hA1, hA2⟩ : its.length ≤ c ∧ c ≤ maxLen := by
      obtain ⟨A', c', e', q1, q2⟩ := hi.form
      injection e' with e1 e2 e3
      subst e3
      exact ⟨q1, q2⟩
    clear hX hi hr hp hrr hS
    have hX := HX.out
    unfold chooseF at hX
    have HX := Lib.hid hX
    clear hX
    go_wp2_with (go_at_call 40; refine stopAt ?_)
    unfold Hid
    refine (must_at g t lt 0 [wFROM] _ HP.out).mono ?_
    intro e wf hR_
    cases hx : mustT [wFROM] lt with
    | error p =>
      rw [hx] at hR_
      obtain ⟨rfl, hE⟩ := hR_
      have hq : DoP g t 0 X (StG w.heap.size) w (.panicked [{ v := failV p.1 p.2, recovered := false }]) wf := by
        rw [HX.out, hx]
        exact ⟨rfl, HS.out.trans hE⟩
      exact ⟨rfl, hq⟩
    | ok q =>
      obtain ⟨⟨⟩, lf⟩ := q
      rw [hx] at hR_
      obtain ⟨v, rfl, rfl, hp, hS⟩ := hR_
      have hX := HX.out
      rw [hx, thenT_ok] at hX
      have HX := Lib.hid hX
      clear hX hx
      have hSz := hS.size
      have HR := Lib.hid (HR.out.keep hS (by omega))
      have HRR := Lib.hid (HRR.out.keep hS (by omega))
      have HI := Lib.hid (HI.out.keep itK (hS.mono fun q _ (h : gs < q) => by omega))
      have HS := Lib.hid (HS.out.trans hS)
      have HP := Lib.hid hp
      clear hp hS
      go_wp2_with (go_at_call 84; refine stopAt ?_)
      unfold Hid
      refine (name_any g t lf 0 _ HP.out).mono ?_
      intro e wn hR_
      cases hx : nameT lf with
      | error p =>
        rw [hx] at hR_
        obtain ⟨rfl, hE⟩ := hR_
        have hq : DoP g t 0 X (StG w.heap.size) w (.panicked [{ v := failV p.1 p.2, recovered := false }]) wn := by
          rw [HX.out, hx]
          exact ⟨rfl, HS.out.trans hE⟩
        exact ⟨rfl, hq⟩
      | ok q =>
        obtain ⟨tb, ln⟩ := q
        rw [hx] at hR_
        obtain ⟨v, rfl, rfl, hp, hS⟩ := hR_
        have hX := HX.out
        rw [hx, thenT_ok] at hX
        have HX := Lib.hid hX
        clear hX hx
        have hSz := hS.size
        have HR := Lib.hid (HR.out.keep hS (by omega))
        have HRR := Lib.hid (HRR.out.keep hS (by omega))
        have HI := Lib.hid (HI.out.keep itK (hS.mono fun q _ (h : gs < q) => by omega))
        have HS := Lib.hid (HS.out.trans hS)
        have HP := Lib.hid hp
        clear hp hS
        have hr := HR.out
        have c_ := hr.cell 1
        simp only [List.getElem?_cons_zero, List.getElem?_cons_succ] at c_
        have f_ := hr.frozen 1
        have zr := hr.lt
        have hsz := size_set wn ⟨gs, 1, none⟩ (.string (str tb))
        have hss : Same (fun q => q ≠ gs) wn (wn.setCell ⟨gs, 1, none⟩ (.string (str tb))) := (Same.refl _ _).setCell (fun _ h => h rfl) _
        have HR : Hid (Row (wn.setCell ⟨gs, 1, none⟩ (.string (str tb))) gs 44 [.int .i64 1, .string (str tb), .slice A its.length c, .slice none 0 0, .slice none 0 0, .bool false, .int .i64 0, .string ⟨#[]⟩, .int .i64 0, .int .i64 0, .string ⟨#[]⟩, .slice none 0 0, .string ⟨#[]⟩, .bool false, .int .i64 (-1)]) := Lib.hid (hr.set_ 1 (.string (str tb)))
        have HP := Lib.hid (HP.out.keepB hss (by omega) (by omega) (by omega))
        have HRR := Lib.hid (HRR.out.keep hss (by omega))
        have HI := Lib.hid (HI.out.keep itK (hss.mono fun q _ (h : gs < q) => by omega))
        have HS := Lib.hid (HS.out.trans' hss fun q hq _ => by omega)
        clear hr hss
        go_wp2_with (go_at_call 89; refine stopAt ?_)
        unfold Hid
        revert hsz HR HP HRR HI HS
        generalize wn.setCell _ _ = wn2
        intro hsz HR HP HRR HI HS
        clear c_ f_ zr
        refine (where_any g t gs (⟨.slice A its.length c, .slice none 0 0, .slice none 0 0, .slice none 0 0⟩ : SU) (⟨1, tb, its, [], [], false, .zero, [], false, -1⟩ : Stm) ln wn2 HP.out (show Row wn2 gs 44 (stCs (⟨.slice A its.length c, .slice none 0 0, .slice none 0 0, .slice none 0 0⟩ : SU) (⟨1, tb, its, [], [], false, .zero, [], false, -1⟩ : Stm)) from HR.out) ⟨by omega, by omega, by omega⟩ rfl rfl rfl).mono ?_
        intro e ww hR_
        cases hx : whereT (⟨1, tb, its, [], [], false, .zero, [], false, -1⟩ : Stm) ln with
        | error p =>
          rw [hx] at hR_
          obtain ⟨rfl, hE⟩ := hR_
          have hq : DoP g t 0 X (StG w.heap.size) w (.panicked [{ v := failV p.1 p.2, recovered := false }]) ww := by
            rw [HX.out, hx]
            exact ⟨rfl, HS.out.trans' hE fun q hq h => ⟨h, by omega⟩⟩
          exact ⟨rfl, hq⟩
        | ok q =>
          obtain ⟨sx, l4⟩ := q
          rw [hx] at hR_
          obtain ⟨v, rfl, ⟨rfl, uc, hr, hc⟩, hp, hS⟩ := hR_
          have hX := HX.out
          rw [hx, thenT_ok] at hX
          obtain ⟨ft, cd, rfl⟩ := where_ok2 hx
          have HX := Lib.hid hX
          have hSz := hS.size
          have HRR := Lib.hid (HRR.out.keep hS ⟨by omega, by omega⟩)
          have HI := Lib.hid (HI.out.keep itK (hS.mono fun q _ (h : gs < q) => ⟨by omega, by omega⟩))
          have HS := Lib.hid (HS.out.trans' hS fun q hq h => ⟨h, by omega⟩)
          obtain ⟨Ac, cc, rfl, -, -⟩ := (show ExR ww (fun q => gs < q) uc cd from hc).toL.form
          have HC : Hid (ExR ww (fun q => gs < q) (.slice Ac cd.args.length cc) cd) := Lib.hid hc
          have HR : Hid (Row ww gs 44 [.int .i64 1, .string (str tb), .slice A its.length c, .slice none 0 0, .slice none 0 0, .bool ft, .int .i64 cd.kind, .string (str cd.s), .int .i64 cd.v.kind, .int .i64 cd.v.n, .string (str cd.v.s), .slice Ac cd.args.length cc, .string ⟨#[]⟩, .bool false, .int .i64 (-1)]) := Lib.hid hr
          have HP := Lib.hid hp
          clear hX hx hr hc hp hS
          generalize cd.args.length = nc at *
          go_wp2_with (go_at_call 37; refine stopAt ?_)
          unfold Hid
          refine (take_any g t l4 0 wORDER _ HP.out).mono ?_
          rintro e wo ⟨rfl, hp, hS⟩
          have hSz := hS.size
          have HR := Lib.hid (HR.out.keep hS (by omega))
          have HRR := Lib.hid (HRR.out.keep hS (by omega))
          have HI := Lib.hid (HI.out.keep itK (hS.mono fun q _ (h : gs < q) => by omega))
          have HC := Lib.hid (HC.out.keep (hS.mono fun q _ (h : gs < q) => by omega))
          have HS := Lib.hid (HS.out.trans hS)
          have HP := Lib.hid hp
          clear hp hS
          have hX := HX.out
          unfold ordlimF orderT at hX
          dsimp only at hX
          have HX := Lib.hid hX
          clear hX
          go_upto_if 47 with (fail)
          go_cut [] from 47 to 61 (fun wx => ∃ (W : World) (od : List UInt8) (dn : Bool) (l5 : List PT), W = wx ∧ X = limitT (⟨1, tb, its, [], [], ft, cd, od, dn, -1⟩ : Stm) l5 ∧ LsR itCs 7 itOk W (fun q => gs < q) (.slice A its.length c) its ∧ ExR W (fun q => gs < q) (.slice Ac nc cc) cd ∧ Row W gs 44 [.int .i64 1, .string (str tb), .slice A its.length c, .slice none 0 0, .slice none 0 0, .bool ft, .int .i64 cd.kind, .string (str cd.s), .int .i64 cd.v.kind, .int .i64 cd.v.n, .string (str cd.v.s), .slice Ac nc cc, .string (str od), .bool dn, .int .i64 (-1)] ∧ PS W g t l5 0 ∧ Row W w.heap.size 44 [.int .i64 0, .string ⟨#[]⟩, .slice none 0 0, .slice none 0 0, .slice none 0 0, .bool false, .int .i64 0, .string ⟨#[]⟩, .int .i64 0, .int .i64 0, .string ⟨#[]⟩, .slice none 0 0, .string ⟨#[]⟩, .bool false, .int .i64 0] ∧ Same (fun q => q ≠ g) w W)
          case first =>
            cases hq : isT wORDER l4
            · have hp := HP.out
              rw [hq, if_neg (by simp)] at hp
              have HP := Lib.hid hp
              have hX := HX.out
              rw [hq, if_neg (by simp)] at hX
              have HX := Lib.hid hX
              clear hX
              have HQ := Lib.hid hq
              clear hq hp
              have hX := HX.out
              rw [thenT_ok] at hX
              have HX := Lib.hid hX
              clear hX
              go_wp2
              go_meet
              case rel => exact ⟨_, [], false, _, rfl, HX.out, HI.out, HC.out, HR.out, HP.out, HRR.out, HS.out⟩
            · have hp := HP.out
              rw [hq, if_pos rfl] at hp
              have HP := Lib.hid hp
              have hX := HX.out
              rw [hq, if_pos rfl] at hX
              have HX := Lib.hid hX
              clear hX
              have HQ := Lib.hid hq
              clear hq hp
              have hX := HX.out
              rw [then_assoc] at hX
              have HX := Lib.hid hX
              clear hX
              go_wp2_with (go_at_call 40; refine stopAt ?_)
              unfold Hid
              refine (must_at g t l4.tail 0 [wBY] _ HP.out).mono ?_
              intro e wb hR_
              cases hx : mustT [wBY] l4.tail with
              | error p =>
                rw [hx] at hR_
                obtain ⟨rfl, hE⟩ := hR_
                have hq : DoP g t 0 X (StG w.heap.size) w (.panicked [{ v := failV p.1 p.2, recovered := false }]) wb := by
                  rw [HX.out, hx]
                  exact ⟨rfl, HS.out.trans hE⟩
                exact ⟨rfl, hq⟩
              | ok q =>
                obtain ⟨⟨⟩, l6⟩ := q
                rw [hx] at hR_
                obtain ⟨v, rfl, rfl, hp, hS⟩ := hR_
                have hX := HX.out
                rw [hx, thenT_ok] at hX
                have HX := Lib.hid hX
                clear hX hx
                have hSz := hS.size
                have HR := Lib.hid (HR.out.keep hS (by omega))
                have HRR := Lib.hid (HRR.out.keep hS (by omega))
                have HI := Lib.hid (HI.out.keep itK (hS.mono fun q _ (h : gs < q) => by omega))
                have HC := Lib.hid (HC.out.keep (hS.mono fun q _ (h : gs < q) => by omega))
                have HS := Lib.hid (HS.out.trans hS)
                have HP := Lib.hid hp
                clear hp hS
                have hX := HX.out
                rw [then_assoc] at hX
                have HX := Lib.hid hX
                clear hX
                go_wp2_with (go_at_call 84; refine stopAt ?_)
                unfold Hid
                refine (name_any g t l6 0 _ HP.out).mono ?_
                intro e wn3 hR_
                cases hx : nameT l6 with
                | error p =>
                  rw [hx] at hR_
                  obtain ⟨rfl, hE⟩ := hR_
                  have hq : DoP g t 0 X (StG w.heap.size) w (.panicked [{ v := failV p.1 p.2, recovered := false }]) wn3 := by
                    rw [HX.out, hx]
                    exact ⟨rfl, HS.out.trans hE⟩
                  exact ⟨rfl, hq⟩
                | ok q =>
                  obtain ⟨od, l7⟩ := q
                  rw [hx] at hR_
                  obtain ⟨v, rfl, rfl, hp, hS⟩ := hR_
                  have hX := HX.out
                  rw [hx, thenT_ok] at hX
                  have HX := Lib.hid hX
                  clear hX hx
                  have hSz := hS.size
                  have HR := Lib.hid (HR.out.keep hS (by omega))
                  have HRR := Lib.hid (HRR.out.keep hS (by omega))
                  have HI := Lib.hid (HI.out.keep itK (hS.mono fun q _ (h : gs < q) => by omega))
                  have HC := Lib.hid (HC.out.keep (hS.mono fun q _ (h : gs < q) => by omega))
                  have HS := Lib.hid (HS.out.trans hS)
                  have HP := Lib.hid hp
                  clear hp hS
                  have hr := HR.out
                  have c_ := hr.cell 12
                  simp only [List.getElem?_cons_zero, List.getElem?_cons_succ] at c_
                  have f_ := hr.frozen 12
                  have zr := hr.lt
                  have hsz := size_set wn3 ⟨gs, 12, none⟩ (.string (str od))
                  have hss : Same (fun q => q ≠ gs) wn3 (wn3.setCell ⟨gs, 12, none⟩ (.string (str od))) := (Same.refl _ _).setCell (fun _ h => h rfl) _
                  have HR : Hid (Row (wn3.setCell ⟨gs, 12, none⟩ (.string (str od))) gs 44 [.int .i64 1, .string (str tb), .slice A its.length c, .slice none 0 0, .slice none 0 0, .bool ft, .int .i64 cd.kind, .string (str cd.s), .int .i64 cd.v.kind, .int .i64 cd.v.n, .string (str cd.v.s), .slice Ac nc cc, .string (str od), .bool false, .int .i64 (-1)]) := Lib.hid (hr.set_ 12 (.string (str od)))
                  have HP := Lib.hid (HP.out.keepB hss (by omega) (by omega) (by omega))
                  have HRR := Lib.hid (HRR.out.keep hss (by omega))
                  have HI := Lib.hid (HI.out.keep itK (hss.mono fun q _ (h : gs < q) => by omega))
                  have HC := Lib.hid (HC.out.keep (hss.mono fun q _ (h : gs < q) => by omega))
                  have HS := Lib.hid (HS.out.trans' hss fun q hq _ => by omega)
                  clear hr hss
                  go_wp2_with (go_at_call 37; refine stopAt ?_)
                  unfold Hid
                  revert hsz HR HP HRR HI HC HS
                  generalize wn3.setCell _ _ = wn4
                  intro hsz HR HP HRR HI HC HS
                  clear c_ f_ zr
                  refine (take_any g t l7 0 wDESC wn4 HP.out).mono ?_
                  rintro e wd ⟨rfl, hp, hS⟩
                  have hSz := hS.size
                  have HR := Lib.hid (HR.out.keep hS (by omega))
                  have HRR := Lib.hid (HRR.out.keep hS (by omega))
                  have HI := Lib.hid (HI.out.keep itK (hS.mono fun q _ (h : gs < q) => by omega))
                  have HC := Lib.hid (HC.out.keep (hS.mono fun q _ (h : gs < q) => by omega))
                  have HS := Lib.hid (HS.out.trans hS)
                  have HP := Lib.hid hp
                  clear hp hS
                  cases hq : isT wDESC l7
                  · have hp := HP.out
                    rw [hq, if_neg (by simp)] at hp
                    have HP := Lib.hid hp
                    have hX := HX.out
                    rw [hq, if_neg (by simp)] at hX
                    have HX := Lib.hid hX
                    clear hX
                    have HQ := Lib.hid hq
                    clear hq hp
                    have hr := HR.out
                    have c_ := hr.cell 13
                    simp only [List.getElem?_cons_zero, List.getElem?_cons_succ] at c_
                    have f_ := hr.frozen 13
                    have zr := hr.lt
                    have hsz := size_set wd ⟨gs, 13, none⟩ (.bool false)
                    have hss : Same (fun q => q ≠ gs) wd (wd.setCell ⟨gs, 13, none⟩ (.bool false)) := (Same.refl _ _).setCell (fun _ h => h rfl) _
                    have HR : Hid (Row (wd.setCell ⟨gs, 13, none⟩ (.bool false)) gs 44 [.int .i64 1, .string (str tb), .slice A its.length c, .slice none 0 0, .slice none 0 0, .bool ft, .int .i64 cd.kind, .string (str cd.s), .int .i64 cd.v.kind, .int .i64 cd.v.n, .string (str cd.v.s), .slice Ac nc cc, .string (str od), .bool false, .int .i64 (-1)]) := Lib.hid (hr.set_ 13 (.bool false))
                    have HP := Lib.hid (HP.out.keepB hss (by omega) (by omega) (by omega))
                    have HRR := Lib.hid (HRR.out.keep hss (by omega))
                    have HI := Lib.hid (HI.out.keep itK (hss.mono fun q _ (h : gs < q) => by omega))
                    have HC := Lib.hid (HC.out.keep (hss.mono fun q _ (h : gs < q) => by omega))
                    have HS := Lib.hid (HS.out.trans' hss fun q hq _ => by omega)
                    clear hr hss
                    go_wp2_with (go_at_call 37; refine stopAt ?_)
                    unfold Hid
                    revert hsz HR HP HRR HI HC HS
                    generalize wd.setCell _ _ = wd2
                    intro hsz HR HP HRR HI HC HS
                    clear c_ f_ zr
                    refine (take_any g t l7 0 wASC wd2 HP.out).mono ?_
                    rintro e wa ⟨rfl, hp, hS⟩
                    have hSz := hS.size
                    have HR := Lib.hid (HR.out.keep hS (by omega))
                    have HRR := Lib.hid (HRR.out.keep hS (by omega))
                    have HI := Lib.hid (HI.out.keep itK (hS.mono fun q _ (h : gs < q) => by omega))
                    have HC := Lib.hid (HC.out.keep (hS.mono fun q _ (h : gs < q) => by omega))
                    have HS := Lib.hid (HS.out.trans hS)
                    have HP := Lib.hid hp
                    clear hp hS
                    have hX := HX.out
                    rw [thenT_ok] at hX
                    have HX := Lib.hid hX
                    clear hX
                    cases hq : isT wASC l7
                    · have hp := HP.out
                      rw [hq, if_neg (by simp)] at hp
                      have HP := Lib.hid hp
                      have hX := HX.out
                      rw [hq, if_neg (by simp)] at hX
                      have HX := Lib.hid hX
                      clear hX
                      have HQ := Lib.hid hq
                      clear hq hp
                      go_wp2
                      go_meet
                      case rel => exact ⟨_, od, false, _, rfl, HX.out, HI.out, HC.out, HR.out, HP.out, HRR.out, HS.out⟩
                    · have hp := HP.out
                      rw [hq, if_pos rfl] at hp
                      have HP := Lib.hid hp
                      have hX := HX.out
                      rw [hq, if_pos rfl] at hX
                      have HX := Lib.hid hX
                      clear hX
                      have HQ := Lib.hid hq
                      clear hq hp
                      go_wp2
                      go_meet
                      case rel => exact ⟨_, od, false, _, rfl, HX.out, HI.out, HC.out, HR.out, HP.out, HRR.out, HS.out⟩
                  · have hp := HP.out
                    rw [hq, if_pos rfl] at hp
                    have HP := Lib.hid hp
                    have hX := HX.out
                    rw [hq, if_pos rfl] at hX
                    have HX := Lib.hid hX
                    clear hX
                    have HQ := Lib.hid hq
                    clear hq hp
                    have hr := HR.out
                    have c_ := hr.cell 13
                    simp only [List.getElem?_cons_zero, List.getElem?_cons_succ] at c_
                    have f_ := hr.frozen 13
                    have zr := hr.lt
                    have hsz := size_set wd ⟨gs, 13, none⟩ (.bool true)
                    have hss : Same (fun q => q ≠ gs) wd (wd.setCell ⟨gs, 13, none⟩ (.bool true)) := (Same.refl _ _).setCell (fun _ h => h rfl) _
                    have HR : Hid (Row (wd.setCell ⟨gs, 13, none⟩ (.bool true)) gs 44 [.int .i64 1, .string (str tb), .slice A its.length c, .slice none 0 0, .slice none 0 0, .bool ft, .int .i64 cd.kind, .string (str cd.s), .int .i64 cd.v.kind, .int .i64 cd.v.n, .string (str cd.v.s), .slice Ac nc cc, .string (str od), .bool true, .int .i64 (-1)]) := Lib.hid (hr.set_ 13 (.bool true))
                    have HP := Lib.hid (HP.out.keepB hss (by omega) (by omega) (by omega))
                    have HRR := Lib.hid (HRR.out.keep hss (by omega))
                    have HI := Lib.hid (HI.out.keep itK (hss.mono fun q _ (h : gs < q) => by omega))
                    have HC := Lib.hid (HC.out.keep (hss.mono fun q _ (h : gs < q) => by omega))
                    have HS := Lib.hid (HS.out.trans' hss fun q hq _ => by omega)
                    clear hr hss
                    have hX := HX.out
                    rw [thenT_ok] at hX
                    have HX := Lib.hid hX
                    clear hX
                    go_wp2
                    go_meet
                    case rel => exact ⟨_, od, true, _, rfl, HX.out, HI.out, HC.out, HR.out, HP.out, HRR.out, HS.out⟩
          case rest =>
            obtain ⟨W2, od, dn, l5, rfl, hX, hi, hc, hr, hp, hrr, hS⟩ := hcut
            have HX := Lib.hid hX
            have HI := Lib.hid hi
            have HC := Lib.hid hc
            have HR := Lib.hid hr
            have HP := Lib.hid hp
            have HRR := Lib.hid hrr
            have HS := Lib.hid hS
            have hWz2 := hr.lt
            clear hX hi hc hr hp hrr hS
            go_wp2_with (go_at_call 37; refine stopAt ?_)
            unfold Hid
            refine (take_any g t l5 0 wLIMIT _ HP.out).mono ?_
            rintro e wk ⟨rfl, hp, hS⟩
            have hSz := hS.size
            have HR := Lib.hid (HR.out.keep hS (by omega))
            have HRR := Lib.hid (HRR.out.keep hS (by omega))
            have HI := Lib.hid (HI.out.keep itK (hS.mono fun q _ (h : gs < q) => by omega))
            have HC := Lib.hid (HC.out.keep (hS.mono fun q _ (h : gs < q) => by omega))
            have HS := Lib.hid (HS.out.trans hS)
            have HP := Lib.hid hp
            clear hp hS
            have hX := HX.out
            unfold limitT at hX
            dsimp only at hX
            have HX := Lib.hid hX
            clear hX
            go_upto_if 63 with (fail)
            go_cut [] from 63 to 66 (fun wx => ∃ (W : World) (lm : Int) (l6 : List PT), W = wx ∧ X = .ok ((⟨1, tb, its, [], [], ft, cd, od, dn, lm⟩ : Stm), l6) ∧ LsR itCs 7 itOk W (fun q => gs < q) (.slice A its.length c) its ∧ ExR W (fun q => gs < q) (.slice Ac nc cc) cd ∧ Row W gs 44 [.int .i64 1, .string (str tb), .slice A its.length c, .slice none 0 0, .slice none 0 0, .bool ft, .int .i64 cd.kind, .string (str cd.s), .int .i64 cd.v.kind, .int .i64 cd.v.n, .string (str cd.v.s), .slice Ac nc cc, .string (str od), .bool dn, .int .i64 lm] ∧ PS W g t l6 0 ∧ Row W w.heap.size 44 [.int .i64 0, .string ⟨#[]⟩, .slice none 0 0, .slice none 0 0, .slice none 0 0, .bool false, .int .i64 0, .string ⟨#[]⟩, .int .i64 0, .int .i64 0, .string ⟨#[]⟩, .slice none 0 0, .string ⟨#[]⟩, .bool false, .int .i64 0] ∧ Same (fun q => q ≠ g) w W)
            case first =>
              cases hq : isT wLIMIT l5
              · have hp := HP.out
                rw [hq, if_neg (by simp)] at hp
                have HP := Lib.hid hp
                have hX := HX.out
                rw [hq, if_neg (by simp)] at hX
                have HX := Lib.hid hX
                clear hX
                have HQ := Lib.hid hq
                clear hq hp
                go_wp2
                go_meet
                case rel => exact ⟨_, (-1), _, rfl, HX.out, HI.out, HC.out, HR.out, HP.out, HRR.out, HS.out⟩
              · have hp := HP.out
                rw [hq, if_pos rfl] at hp
                have HP := Lib.hid hp
                have hX := HX.out
                rw [hq, if_pos rfl] at hX
                have HX := Lib.hid hX
                clear hX
                have HQ := Lib.hid hq
                clear hq hp
                go_wp2_with (go_at_call 41; refine stopAt ?_)
                unfold Hid
                refine (int_any g t l5.tail 0 _ HP.out).mono ?_
                intro e wl hR_
                cases hx : intT l5.tail with
                | error p =>
                  rw [hx] at hR_
                  obtain ⟨rfl, hE⟩ := hR_
                  have hq : DoP g t 0 X (StG w.heap.size) w (.panicked [{ v := failV p.1 p.2, recovered := false }]) wl := by
                    rw [HX.out, hx]
                    exact ⟨rfl, HS.out.trans hE⟩
                  exact ⟨rfl, hq⟩
                | ok q =>
                  obtain ⟨n, lz⟩ := q
                  rw [hx] at hR_
                  obtain ⟨v, rfl, rfl, hp, hS⟩ := hR_
                  have hX := HX.out
                  rw [hx, thenT_ok] at hX
                  have HX := Lib.hid hX
                  clear hX hx
                  have hSz := hS.size
                  have HR := Lib.hid (HR.out.keep hS (by omega))
                  have HRR := Lib.hid (HRR.out.keep hS (by omega))
                  have HI := Lib.hid (HI.out.keep itK (hS.mono fun q _ (h : gs < q) => by omega))
                  have HC := Lib.hid (HC.out.keep (hS.mono fun q _ (h : gs < q) => by omega))
                  have HS := Lib.hid (HS.out.trans hS)
                  have HP := Lib.hid hp
                  clear hp hS
                  have hr := HR.out
                  have c_ := hr.cell 14
                  simp only [List.getElem?_cons_zero, List.getElem?_cons_succ] at c_
                  have f_ := hr.frozen 14
                  have zr := hr.lt
                  have hsz := size_set wl ⟨gs, 14, none⟩ (.int .i64 n)
                  have hss : Same (fun q => q ≠ gs) wl (wl.setCell ⟨gs, 14, none⟩ (.int .i64 n)) := (Same.refl _ _).setCell (fun _ h => h rfl) _
                  have HR : Hid (Row (wl.setCell ⟨gs, 14, none⟩ (.int .i64 n)) gs 44 [.int .i64 1, .string (str tb), .slice A its.length c, .slice none 0 0, .slice none 0 0, .bool ft, .int .i64 cd.kind, .string (str cd.s), .int .i64 cd.v.kind, .int .i64 cd.v.n, .string (str cd.v.s), .slice Ac nc cc, .string (str od), .bool dn, .int .i64 n]) := Lib.hid (hr.set_ 14 (.int .i64 n))
                  have HP := Lib.hid (HP.out.keepB hss (by omega) (by omega) (by omega))
                  have HRR := Lib.hid (HRR.out.keep hss (by omega))
                  have HI := Lib.hid (HI.out.keep itK (hss.mono fun q _ (h : gs < q) => by omega))
                  have HC := Lib.hid (HC.out.keep (hss.mono fun q _ (h : gs < q) => by omega))
                  have HS := Lib.hid (HS.out.trans' hss fun q hq _ => by omega)
                  clear hr hss
                  go_wp2
                  go_meet
                  case rel => exact ⟨_, n, _, rfl, HX.out, HI.out, HC.out, HR.out, HP.out, HRR.out, HS.out⟩
            case rest =>
              obtain ⟨W3, lm, l6, rfl, hX, hi, hc, hr, hp, hrr, hS⟩ := hcut
              have HX := Lib.hid hX
              have HI := Lib.hid hi
              have HC := Lib.hid hc
              have HR := Lib.hid hr
              have HP := Lib.hid hp
              have HRR := Lib.hid hrr
              have HS := Lib.hid hS
              have hWz3 := hr.lt
              clear hX hi hc hr hp hrr hS
              have rr := HRR.out
              have q0 := rr.cell 0
              have q1 := rr.cell 1
              have q2 := rr.cell 2
              have q3 := rr.cell 3
              have q4 := rr.cell 4
              have q5 := rr.cell 5
              have q6 := rr.cell 6
              have q7 := rr.cell 7
              have q8 := rr.cell 8
              have q9 := rr.cell 9
              have q10 := rr.cell 10
              have q11 := rr.cell 11
              have q12 := rr.cell 12
              have q13 := rr.cell 13
              have q14 := rr.cell 14
              simp only [List.getElem?_cons_zero, List.getElem?_cons_succ] at q0 q1 q2 q3 q4 q5 q6 q7 q8 q9 q10 q11 q12 q13 q14
              have x0 := rr.frozen 0
              have x1 := rr.frozen 1
              have x2 := rr.frozen 2
              have x3 := rr.frozen 3
              have x4 := rr.frozen 4
              have x5 := rr.frozen 5
              have x6 := rr.frozen 6
              have x7 := rr.frozen 7
              have x8 := rr.frozen 8
              have x9 := rr.frozen 9
              have x10 := rr.frozen 10
              have x11 := rr.frozen 11
              have x12 := rr.frozen 12
              have x13 := rr.frozen 13
              have x14 := rr.frozen 14
              have zr := rr.lt
              have hr := HR.out
              have y0 := hr.cell 0
              have y1 := hr.cell 1
              have y2 := hr.cell 2
              have y3 := hr.cell 3
              have y4 := hr.cell 4
              have y5 := hr.cell 5
              have y6 := hr.cell 6
              have y7 := hr.cell 7
              have y8 := hr.cell 8
              have y9 := hr.cell 9
              have y10 := hr.cell 10
              have y11 := hr.cell 11
              have y12 := hr.cell 12
              have y13 := hr.cell 13
              have y14 := hr.cell 14
              simp only [List.getElem?_cons_zero, List.getElem?_cons_succ] at y0 y1 y2 y3 y4 y5 y6 y7 y8 y9 y10 y11 y12 y13 y14
              clear hr
              obtain ⟨hD, hB, hC⟩ := fin_cs (cs := stCs (⟨.slice A its.length c, .slice none 0 0, .slice none 0 0, .slice Ac nc cc⟩ : SU) (⟨1, tb, its, [], [], ft, cd, od, dn, lm⟩ : Stm)) HP.out zg3 zg4 zg5 rr
              have hHI : LsR itCs 7 itOk (setsW W3 w.heap.size 0 (stCs (⟨.slice A its.length c, .slice none 0 0, .slice none 0 0, .slice Ac nc cc⟩ : SU) (⟨1, tb, its, [], [], ft, cd, od, dn, lm⟩ : Stm))) (fun q => w.heap.size ≤ q) _ _ := (HI.out.keep itK (hC.mono fun q _ (h : gs < q) => by omega)).mono itK (by omega) fun q _ (h : gs < q) => by omega
              have hHC : ExR (setsW W3 w.heap.size 0 (stCs (⟨.slice A its.length c, .slice none 0 0, .slice none 0 0, .slice Ac nc cc⟩ : SU) (⟨1, tb, its, [], [], ft, cd, od, dn, lm⟩ : Stm))) (fun q => w.heap.size ≤ q) _ _ := (HC.out.keep (hC.mono fun q _ (h : gs < q) => by omega)).mono fun q _ (h : gs < q) => by omega
              have HST := Lib.hid (show StR (setsW W3 w.heap.size 0 (stCs (⟨.slice A its.length c, .slice none 0 0, .slice none 0 0, .slice Ac nc cc⟩ : SU) (⟨1, tb, its, [], [], ft, cd, od, dn, lm⟩ : Stm))) (fun q => w.heap.size ≤ q) (⟨.slice A its.length c, .slice none 0 0, .slice none 0 0, .slice Ac nc cc⟩ : SU) (⟨1, tb, its, [], [], ft, cd, od, dn, lm⟩ : Stm) from ⟨hHI, LsR.nil _ _, LsR.nil _ _, hHC⟩)
              have HD := Lib.hid hD
              have HB := Lib.hid hB
              have HS9 : Hid (Same (fun q => q ≠ g) w (setsW W3 w.heap.size 0 (stCs (⟨.slice A its.length c, .slice none 0 0, .slice none 0 0, .slice Ac nc cc⟩ : SU) (⟨1, tb, its, [], [], ft, cd, od, dn, lm⟩ : Stm)))) := Lib.hid (Same.sets' (Nat.le_refl _) _ 0 HS.out)
              clear rr hD hB hC hHI hHC
              go_wp2
              refine bodyPost_ret (choose_results (u := (⟨.slice A its.length c, .slice none 0 0, .slice none 0 0, .slice Ac nc cc⟩ : SU)) (s := (⟨1, tb, its, [], [], ft, cd, od, dn, lm⟩ : Stm)) (show Row _ _ _ (stCs (⟨.slice A its.length c, .slice none 0 0, .slice none 0 0, .slice Ac nc cc⟩ : SU) (⟨1, tb, its, [], [], ft, cd, od, dn, lm⟩ : Stm)) from HD.out) rfl) rfl ?_
              rw [HX.out]
              exact ⟨_, rfl, ⟨_, rfl, HST.out⟩, HB.out, HS9.out⟩
theorem then_id {α : Type} (x : PR α) : thenT x (fun a l => .ok (a, l)) = x := by cases x <;> rfl
set_option maxRecDepth 100000 in
set_option maxHeartbeats 16000000 in
theorem stmt_sel (g t : Nat) (l : List PT) (w : World) (h : PS w g t l 0) (h0 : isT wSELECT l = true) : Calls Tryz.prog 36 #[pV g] w (DoP g t 0 (chooseT l.tail) (StG w.heap.size) w) := by
  obtain ⟨X, hX⟩ : ∃ X, X = chooseT l.tail := ⟨_, rfl⟩
  rw [← hX]
  have HX := Lib.hid hX
  have H0 := Lib.hid h0
  obtain ⟨zg3, zg4, zg5⟩ := h.lt3
  have hS0 := (Same.refl (fun _ => True) w).alloc (.cells zst.toArray 44)
  have hz0 : (w.alloc (.cells zst.toArray 44)).heap.size = w.heap.size + 1 := by simp
  have HRR := Lib.hid (Row.new w 44 zst)
  have HP := Lib.hid (h.keep hS0)
  have HS := Lib.hid (hS0.mono (S' := fun q => q ≠ g) fun _ _ _ => trivial)
  clear h hX hS0 h0
  have hX := HX.out
  rw [← then_id (chooseT l.tail)] at hX
  have HX := Lib.hid hX
  clear hX
  go_enter Tryz.func36, Tryz.ntmps36
  go_wp2_with (go_at_call 37; refine stopAt ?_)
  unfold Hid
  simp only [zst] at HRR HP HS hz0
  revert HRR HP HS hz0
  generalize w.alloc _ = w0
  intro hz0 HRR HP HS
  refine (take_any g t l 0 wSELECT _ HP.out).mono ?_
  rintro e w1 ⟨rfl, hp, hS⟩
  have hSz := hS.size
  have HRR := Lib.hid (HRR.out.keep hS (by omega))
  have HS := Lib.hid (HS.out.trans hS)
  have HP := Lib.hid hp
  clear hp hS
  have hp := HP.out
  rw [H0.out, if_pos rfl] at hp
  have HP := Lib.hid hp
  clear hp
  rw [H0.out]
  go_wp2_with (go_at_call 83; refine stopAt ?_)
  unfold Hid
  refine (choose_any g t l.tail w1 HP.out).mono ?_
  intro e w2 hR_
  cases hx : chooseT l.tail with
  | error p =>
    rw [hx] at hR_
    obtain ⟨rfl, hE⟩ := hR_
    have hq : DoP g t 0 X (StG w.heap.size) w (.panicked [{ v := failV p.1 p.2, recovered := false }]) w2 := by
      rw [HX.out, hx]
      exact ⟨rfl, HS.out.trans hE⟩
    exact ⟨rfl, hq⟩
  | ok q =>
    obtain ⟨s, l2⟩ := q
    rw [hx] at hR_
    obtain ⟨v, rfl, ⟨u, rfl, hst⟩, hp, hS⟩ := hR_
    have hX := HX.out
    rw [hx, thenT_ok] at hX
    have HX := Lib.hid hX
    clear hX hx
    have hSz := hS.size
    have HRR := Lib.hid (HRR.out.keep hS (by omega))
    have HS := Lib.hid (HS.out.trans hS)
    have HP := Lib.hid hp
    clear hp hS
    obtain ⟨ui, ur, us, uc⟩ := u
    obtain ⟨hi, hr, ha, hc⟩ := hst
    dsimp only at hi hr ha hc ⊢
    obtain ⟨Ai, ci, rfl, -, -⟩ := hi.form
    obtain ⟨Ar, cr, rfl, -, -⟩ := hr.form
    obtain ⟨Aa, ca, rfl, -, -⟩ := ha.form
    obtain ⟨Ac, cc, rfl, -, -⟩ := hc.toL.form
    have HI1 := Lib.hid hi
    have HI2 := Lib.hid hr
    have HI3 := Lib.hid ha
    have HI4 := Lib.hid hc
    clear hi hr ha hc
    have rr := HRR.out
    have q0 := rr.cell 0
    have q1 := rr.cell 1
    have q2 := rr.cell 2
    have q3 := rr.cell 3
    have q4 := rr.cell 4
    have q5 := rr.cell 5
    have q6 := rr.cell 6
    have q7 := rr.cell 7
    have q8 := rr.cell 8
    have q9 := rr.cell 9
    have q10 := rr.cell 10
    have q11 := rr.cell 11
    have q12 := rr.cell 12
    have q13 := rr.cell 13
    have q14 := rr.cell 14
    simp only [List.getElem?_cons_zero, List.getElem?_cons_succ] at q0 q1 q2 q3 q4 q5 q6 q7 q8 q9 q10 q11 q12 q13 q14
    have x0 := rr.frozen 0
    have x1 := rr.frozen 1
    have x2 := rr.frozen 2
    have x3 := rr.frozen 3
    have x4 := rr.frozen 4
    have x5 := rr.frozen 5
    have x6 := rr.frozen 6
    have x7 := rr.frozen 7
    have x8 := rr.frozen 8
    have x9 := rr.frozen 9
    have x10 := rr.frozen 10
    have x11 := rr.frozen 11
    have x12 := rr.frozen 12
    have x13 := rr.frozen 13
    have x14 := rr.frozen 14
    have zr := rr.lt
    obtain ⟨hD, hB, hC⟩ := fin_cs (cs := (stCs (⟨.slice Ai s.items.length ci, .slice Ar s.rows.length cr, .slice Aa s.sets.length ca, .slice Ac s.cond.args.length cc⟩ : SU) s)) HP.out zg3 zg4 zg5 rr
    have hI1 : LsR itCs 7 itOk (setsW w2 w.heap.size 0 (stCs (⟨.slice Ai s.items.length ci, .slice Ar s.rows.length cr, .slice Aa s.sets.length ca, .slice Ac s.cond.args.length cc⟩ : SU) s)) (fun q => w.heap.size ≤ q) (SU.items (⟨.slice Ai s.items.length ci, .slice Ar s.rows.length cr, .slice Aa s.sets.length ca, .slice Ac s.cond.args.length cc⟩ : SU)) (Stm.items s) := (HI1.out.keep itK (hC.mono fun q _ (h : w1.heap.size ≤ q) => by omega)).mono itK (by omega) fun q _ (h : w1.heap.size ≤ q) => by omega
    have hI2 : LsR rwCs 1 rwOk (setsW w2 w.heap.size 0 (stCs (⟨.slice Ai s.items.length ci, .slice Ar s.rows.length cr, .slice Aa s.sets.length ca, .slice Ac s.cond.args.length cc⟩ : SU) s)) (fun q => w.heap.size ≤ q) (SU.rows (⟨.slice Ai s.items.length ci, .slice Ar s.rows.length cr, .slice Aa s.sets.length ca, .slice Ac s.cond.args.length cc⟩ : SU)) (Stm.rows s) := (HI2.out.keep rwK (hC.mono fun q _ (h : w1.heap.size ≤ q) => by omega)).mono rwK (by omega) fun q _ (h : w1.heap.size ≤ q) => by omega
    have hI3 : LsR asCs 7 asOk (setsW w2 w.heap.size 0 (stCs (⟨.slice Ai s.items.length ci, .slice Ar s.rows.length cr, .slice Aa s.sets.length ca, .slice Ac s.cond.args.length cc⟩ : SU) s)) (fun q => w.heap.size ≤ q) (SU.sets (⟨.slice Ai s.items.length ci, .slice Ar s.rows.length cr, .slice Aa s.sets.length ca, .slice Ac s.cond.args.length cc⟩ : SU)) (Stm.sets s) := (HI3.out.keep asK (hC.mono fun q _ (h : w1.heap.size ≤ q) => by omega)).mono asK (by omega) fun q _ (h : w1.heap.size ≤ q) => by omega
    have hI4 : ExR (setsW w2 w.heap.size 0 (stCs (⟨.slice Ai s.items.length ci, .slice Ar s.rows.length cr, .slice Aa s.sets.length ca, .slice Ac s.cond.args.length cc⟩ : SU) s)) (fun q => w.heap.size ≤ q) (SU.cond (⟨.slice Ai s.items.length ci, .slice Ar s.rows.length cr, .slice Aa s.sets.length ca, .slice Ac s.cond.args.length cc⟩ : SU)) (Stm.cond s) := (HI4.out.keep (hC.mono fun q _ (h : w1.heap.size ≤ q) => by omega)).mono fun q _ (h : w1.heap.size ≤ q) => by omega
    have HST := Lib.hid (show StR (setsW w2 w.heap.size 0 (stCs (⟨.slice Ai s.items.length ci, .slice Ar s.rows.length cr, .slice Aa s.sets.length ca, .slice Ac s.cond.args.length cc⟩ : SU) s)) (fun q => w.heap.size ≤ q) (⟨.slice Ai s.items.length ci, .slice Ar s.rows.length cr, .slice Aa s.sets.length ca, .slice Ac s.cond.args.length cc⟩ : SU) s from ⟨hI1, hI2, hI3, hI4⟩)
    have HD := Lib.hid hD
    have HB := Lib.hid hB
    have HS9 : Hid (Same (fun q => q ≠ g) w (setsW w2 w.heap.size 0 (stCs (⟨.slice Ai s.items.length ci, .slice Ar s.rows.length cr, .slice Aa s.sets.length ca, .slice Ac s.cond.args.length cc⟩ : SU) s))) := Lib.hid (Same.sets' (Nat.le_refl _) _ 0 HS.out)
    clear rr hD hB hC hI1 hI2 hI3 hI4
    go_wp2
    refine bodyPost_ret (stmt_results (u := (⟨.slice Ai s.items.length ci, .slice Ar s.rows.length cr, .slice Aa s.sets.length ca, .slice Ac s.cond.args.length cc⟩ : SU)) (s := s) (show Row _ _ _ (stCs (⟨.slice Ai s.items.length ci, .slice Ar s.rows.length cr, .slice Aa s.sets.length ca, .slice Ac s.cond.args.length cc⟩ : SU) s) from HD.out) rfl) rfl ?_
    rw [HX.out]
    exact ⟨_, rfl, ⟨_, rfl, HST.out⟩, HB.out, HS9.out⟩
set_option maxRecDepth 100000 in
set_option maxHeartbeats 16000000 in
theorem stmt_ins (g t : Nat) (l : List PT) (w : World) (h : PS w g t l 0) (h0 : isT wSELECT l = false) (h1 : isT wINSERT l = true) : Calls Tryz.prog 36 #[pV g] w (DoP g t 0 (insertT l.tail) (StG w.heap.size) w) := by
  obtain ⟨X, hX⟩ : ∃ X, X = insertT l.tail := ⟨_, rfl⟩
  rw [← hX]
  have HX := Lib.hid hX
  have H0 := Lib.hid h0
  have H1 := Lib.hid h1
  obtain ⟨zg3, zg4, zg5⟩ := h.lt3
  have hS0 := (Same.refl (fun _ => True) w).alloc (.cells zst.toArray 44)
  have hz0 : (w.alloc (.cells zst.toArray 44)).heap.size = w.heap.size + 1 := by simp
  have HRR := Lib.hid (Row.new w 44 zst)
  have HP := Lib.hid (h.keep hS0)
  have HS := Lib.hid (hS0.mono (S' := fun q => q ≠ g) fun _ _ _ => trivial)
  clear h hX hS0 h0 h1
  have hX := HX.out
  unfold insertT listT at hX
  have HX := Lib.hid hX
  clear hX
  go_enter Tryz.func36, Tryz.ntmps36
  go_wp2_with (go_at_call 37; refine stopAt ?_)
  unfold Hid
  simp only [zst] at HRR HP HS hz0
  revert HRR HP HS hz0
  generalize w.alloc _ = w0
  intro hz0 HRR HP HS
  refine (take_any g t l 0 wSELECT _ HP.out).mono ?_
  rintro e w1 ⟨rfl, hp, hS⟩
  have hSz := hS.size
  have HRR := Lib.hid (HRR.out.keep hS (by omega))
  have HS := Lib.hid (HS.out.trans hS)
  have HP := Lib.hid hp
  clear hp hS
  have hp := HP.out
  rw [H0.out, if_neg (by simp)] at hp
  have HP := Lib.hid hp
  clear hp
  rw [H0.out]
  go_wp2_with (go_at_call 37; refine stopAt ?_)
  unfold Hid
  refine (take_any g t l 0 wINSERT _ HP.out).mono ?_
  rintro e w2 ⟨rfl, hp, hS⟩
  have hSz := hS.size
  have HRR := Lib.hid (HRR.out.keep hS (by omega))
  have HS := Lib.hid (HS.out.trans hS)
  have HP := Lib.hid hp
  clear hp hS
  have hp := HP.out
  rw [H1.out, if_pos rfl] at hp
  have HP := Lib.hid hp
  clear hp
  rw [H1.out]
  go_wp2_with (go_at_call 40; refine stopAt ?_)
  unfold Hid
  refine (must_at g t l.tail 0 [wINTO] _ HP.out).mono ?_
  intro e wi hR_
  cases hx : mustT [wINTO] l.tail with
  | error p =>
    rw [hx] at hR_
    obtain ⟨rfl, hE⟩ := hR_
    have hq : DoP g t 0 X (StG w.heap.size) w (.panicked [{ v := failV p.1 p.2, recovered := false }]) wi := by
      rw [HX.out, hx]
      exact ⟨rfl, HS.out.trans hE⟩
    exact ⟨rfl, hq⟩
  | ok q =>
    obtain ⟨⟨⟩, l1⟩ := q
    rw [hx] at hR_
    obtain ⟨v, rfl, rfl, hp, hS⟩ := hR_
    have hX := HX.out
    rw [hx, thenT_ok] at hX
    have HX := Lib.hid hX
    clear hX hx
    have hSz := hS.size
    have HRR := Lib.hid (HRR.out.keep hS (by omega))
    have HS := Lib.hid (HS.out.trans hS)
    have HP := Lib.hid hp
    clear hp hS
    go_wp2_with (go_at_call 84; refine stopAt ?_)
    unfold Hid
    refine (name_any g t l1 0 _ HP.out).mono ?_
    intro e wn hR_
    cases hx : nameT l1 with
    | error p =>
      rw [hx] at hR_
      obtain ⟨rfl, hE⟩ := hR_
      have hq : DoP g t 0 X (StG w.heap.size) w (.panicked [{ v := failV p.1 p.2, recovered := false }]) wn := by
        rw [HX.out, hx]
        exact ⟨rfl, HS.out.trans hE⟩
      exact ⟨rfl, hq⟩
    | ok q =>
      obtain ⟨tb, l2⟩ := q
      rw [hx] at hR_
      obtain ⟨v, rfl, rfl, hp, hS⟩ := hR_
      have hX := HX.out
      rw [hx, thenT_ok] at hX
      have HX := Lib.hid hX
      clear hX hx
      have hSz := hS.size
      have HRR := Lib.hid (HRR.out.keep hS (by omega))
      have HS := Lib.hid (HS.out.trans hS)
      have HP := Lib.hid hp
      clear hp hS
      have hr0 := Row.new wn 44 ([.int .i64 2, .string (str tb), .slice none 0 0, .slice none 0 0, .slice none 0 0, .bool false, .int .i64 0, .string ⟨#[]⟩, .int .i64 0, .int .i64 0, .string ⟨#[]⟩, .slice none 0 0, .string ⟨#[]⟩, .bool false, .int .i64 0] : List Value)
      have hSA := (Same.refl (fun _ => True) wn).alloc (.cells ([.int .i64 2, .string (str tb), .slice none 0 0, .slice none 0 0, .slice none 0 0, .bool false, .int .i64 0, .string ⟨#[]⟩, .int .i64 0, .int .i64 0, .string ⟨#[]⟩, .slice none 0 0, .string ⟨#[]⟩, .bool false, .int .i64 0] : List Value).toArray 44)
      have hzA : (wn.alloc (.cells ([.int .i64 2, .string (str tb), .slice none 0 0, .slice none 0 0, .slice none 0 0, .bool false, .int .i64 0, .string ⟨#[]⟩, .int .i64 0, .int .i64 0, .string ⟨#[]⟩, .slice none 0 0, .string ⟨#[]⟩, .bool false, .int .i64 0] : List Value).toArray 44)).heap.size = wn.heap.size + 1 := by simp
      have hp0 := HP.out.keep hSA
      have hSA := hSA.mono (S' := fun q => q ≠ g) fun _ _ _ => trivial
      have hrr0 := HRR.out.keep hSA (by omega)
      have hs0 := HS.out.trans hSA
      have hgw := HRR.out.lt
      have HR := Lib.hid hr0
      have HP := Lib.hid hp0
      have HRR := Lib.hid hrr0
      have HS := Lib.hid hs0
      clear hr0 hSA hp0 hrr0 hs0
      go_wp2_with (go_at_call 40; refine stopAt ?_)
      unfold Hid
      revert hzA HR HP HRR HS
      generalize wn.alloc _ = wA
      intro hzA HR HP HRR HS
      rw [← hzA]
      obtain ⟨gs, hgs⟩ : ∃ gs, gs = wn.heap.size := ⟨_, rfl⟩
      rw [← hgs] at HR ⊢
      have hg1 : w.heap.size < gs := by omega
      have hg2 : gs < wA.heap.size := by omega
      have hgG : g < gs := by omega
      have HLG : Hid (g < gs ∧ t < gs ∧ 1 < gs) := Lib.hid ⟨by omega, by omega, by omega⟩
      clear hgs hzA
      refine (must_at g t l2 0 [wVALUES] _ HP.out).mono ?_
      intro e wv hR_
      cases hx : mustT [wVALUES] l2 with
      | error p =>
        rw [hx] at hR_
        obtain ⟨rfl, hE⟩ := hR_
        have hq : DoP g t 0 X (StG w.heap.size) w (.panicked [{ v := failV p.1 p.2, recovered := false }]) wv := by
          rw [HX.out, hx]
          exact ⟨rfl, HS.out.trans hE⟩
        exact ⟨rfl, hq⟩
      | ok q =>
        obtain ⟨⟨⟩, l3⟩ := q
        rw [hx] at hR_
        obtain ⟨v, rfl, rfl, hp, hS⟩ := hR_
        have hX := HX.out
        rw [hx, thenT_ok] at hX
        have HX := Lib.hid hX
        clear hX hx
        have hSz := hS.size
        have HR := Lib.hid (HR.out.keep hS (by omega))
        have HRR := Lib.hid (HRR.out.keep hS (by omega))
        have HS := Lib.hid (HS.out.trans hS)
        have HP := Lib.hid hp
        clear hp hS
        have hX := HX.out
        rw [then_assoc] at hX
        have HX : Hid (X = thenT (rowT l3) fun a l => thenT (sepT (isT [44]) rowT (isT [40]) 16 l.length [a] l) (fun rs l4 => (.ok (⟨2, tb, [], rs, [], false, .zero, [], false, 0⟩, l4) : PR Stm))) := Lib.hid hX
        have HOV : Hid (OwnL rwCs 1 32 rwOk wv (gs + 1) (.slice none 0 0) []) := Lib.hid (OwnL.nil _ _)
        have HLN : Hid (0 ≤ 1000000) := Lib.hid (by omega)
        clear hX
        go_wp2_with (go_at_call 85; refine stopAt ?_)
        unfold Hid
        refine (row_any g t gs (⟨.slice none 0 0, .slice none 0 0, .slice none 0 0, .slice none 0 0⟩ : SU) (⟨2, tb, [], [], [], false, .zero, [], false, 0⟩ : Stm) l3 wv HP.out (show Row wv gs 44 (stCs (⟨.slice none 0 0, .slice none 0 0, .slice none 0 0, .slice none 0 0⟩ : SU) (⟨2, tb, [], [], [], false, .zero, [], false, 0⟩ : Stm)) from HR.out) HLG.out HOV.out (by have := HLN.out; dsimp only [List.length_nil]; omega)).mono ?_
        intro e wr0 hR_
        cases hx : rowT l3 with
        | error p =>
          rw [hx] at hR_
          obtain ⟨rfl, hE⟩ := hR_
          have hq : DoP g t 0 X (StG w.heap.size) w (.panicked [{ v := failV p.1 p.2, recovered := false }]) wr0 := by
            rw [HX.out, hx]
            exact ⟨rfl, HS.out.trans' hE fun q hq h => ⟨h, by omega⟩⟩
          exact ⟨rfl, hq⟩
        | ok q =>
          obtain ⟨y, l4⟩ := q
          have HXK := Lib.hid hx
          rw [hx] at hR_
          obtain ⟨v, rfl, ⟨rfl, z, hr, ho⟩, hp, hS⟩ := hR_
          have hX := HX.out
          rw [hx, thenT_ok] at hX
          have HX := Lib.hid hX
          have hSz := hS.size
          have HRR := Lib.hid (HRR.out.keep hS ⟨by omega, by omega⟩)
          have HS := Lib.hid (HS.out.trans' hS fun q hq h => ⟨h, by omega⟩)
          obtain ⟨Az, cz, rfl, hz1, hz2⟩ := ho.form
          have HR := Lib.hid hr
          have HOV := Lib.hid ho
          have HP := Lib.hid hp
          clear hX hx hr ho hp hS
          go_wp2
          go_loopw [] (fun wr => ∃ (k : Nat) (acc : List (List Ex)) (l' : List PT) (A : Option Addr) (c : Nat), X = thenT (sepT (isT [44]) rowT (isT [40]) 16 k acc l') (fun rs l4 => (.ok (⟨2, tb, [], rs, [], false, .zero, [], false, 0⟩, l4) : PR Stm)) ∧ l'.length ≤ k ∧ acc.length + l'.length ≤ 1000001 ∧ OwnL rwCs 1 32 rwOk wr (gs + 1) (.slice A acc.length c) (acc) ∧ Row wr gs 44 [.int .i64 2, .string (str tb), .slice none 0 0, .slice A acc.length c, .slice none 0 0, .bool false, .int .i64 0, .string ⟨#[]⟩, .int .i64 0, .int .i64 0, .string ⟨#[]⟩, .slice none 0 0, .string ⟨#[]⟩, .bool false, .int .i64 0] ∧ PS wr g t l' 0 ∧ Row wr w.heap.size 44 [.int .i64 0, .string ⟨#[]⟩, .slice none 0 0, .slice none 0 0, .slice none 0 0, .bool false, .int .i64 0, .string ⟨#[]⟩, .int .i64 0, .int .i64 0, .string ⟨#[]⟩, .slice none 0 0, .string ⟨#[]⟩, .bool false, .int .i64 0] ∧ Same (fun q => q ≠ g) w wr) (fun wr => tokLen wr g)
          case atStart => exact ⟨_, [y], l4, _, _, HX.out, Nat.le_refl _, by have := HP.out.short; simp; omega, HOV.out, HR.out, HP.out, HRR.out, HS.out⟩
          case round =>
            clear HX HP HOV HS HR HRR
            obtain ⟨k, acc, l', A, c, hX, hlk, hal, hov, hr, hp, hrr, hS⟩ := hrel
            obtain ⟨hv1, hv2⟩ : acc.length ≤ c ∧ c ≤ maxLen := by
              obtain ⟨A', c', e', q1, q2⟩ := hov.form
              injection e' with e1 e2 e3
              subst e3
              exact ⟨q1, q2⟩
            have hpos := hp.end_.pos
            obtain ⟨k', rfl⟩ : ∃ k', k = k' + 1 := ⟨k - 1, by omega⟩
            unfold sepT at hX
            unfold maxLen at hv2
            have HX := Lib.hid hX
            have HLK := Lib.hid hlk
            have HAL := Lib.hid hal
            have HOV := Lib.hid hov
            have HP := Lib.hid hp
            have HPr := HP
            have HR := Lib.hid hr
            have HRR := Lib.hid hrr
            have HS := Lib.hid hS
            have hWz := hr.lt
            clear hX hlk hal hov hp hS hr hrr
            go_wp2_with (go_at_call 37; refine stopAt ?_)
            unfold Hid
            refine (take_any g t l' 0 [44] _ HP.out).mono ?_
            rintro e w3 ⟨rfl, hp, hS⟩
            have hSz := hS.size
            have HR := Lib.hid (HR.out.keep hS (by omega))
            have HRR := Lib.hid (HRR.out.keep hS (by omega))
            have HOV := Lib.hid (HOV.out.keep rwK hS fun q hq _ => by omega)
            have HS := Lib.hid (HS.out.trans hS)
            have HP := Lib.hid hp
            clear hp hS
            cases hq : isT [44] l'
            · have hp := HP.out
              rw [hq, if_neg (by simp)] at hp
              have HP := Lib.hid hp
              have hX := HX.out
              rw [hq, if_neg (by simp)] at hX
              have HX := Lib.hid hX
              clear hX
              have HQ := Lib.hid hq
              clear hq hp
              have hX := HX.out
              rw [thenT_ok] at hX
              have HX := Lib.hid hX
              clear hX
              have rr := HRR.out
              have q0 := rr.cell 0
              have q1 := rr.cell 1
              have q2 := rr.cell 2
              have q3 := rr.cell 3
              have q4 := rr.cell 4
              have q5 := rr.cell 5
              have q6 := rr.cell 6
              have q7 := rr.cell 7
              have q8 := rr.cell 8
              have q9 := rr.cell 9
              have q10 := rr.cell 10
              have q11 := rr.cell 11
              have q12 := rr.cell 12
              have q13 := rr.cell 13
              have q14 := rr.cell 14
              simp only [List.getElem?_cons_zero, List.getElem?_cons_succ] at q0 q1 q2 q3 q4 q5 q6 q7 q8 q9 q10 q11 q12 q13 q14
              have x0 := rr.frozen 0
              have x1 := rr.frozen 1
              have x2 := rr.frozen 2
              have x3 := rr.frozen 3
              have x4 := rr.frozen 4
              have x5 := rr.frozen 5
              have x6 := rr.frozen 6
              have x7 := rr.frozen 7
              have x8 := rr.frozen 8
              have x9 := rr.frozen 9
              have x10 := rr.frozen 10
              have x11 := rr.frozen 11
              have x12 := rr.frozen 12
              have x13 := rr.frozen 13
              have x14 := rr.frozen 14
              have zr := rr.lt
              have hr := HR.out
              have y0 := hr.cell 0
              have y1 := hr.cell 1
              have y2 := hr.cell 2
              have y3 := hr.cell 3
              have y4 := hr.cell 4
              have y5 := hr.cell 5
              have y6 := hr.cell 6
              have y7 := hr.cell 7
              have y8 := hr.cell 8
              have y9 := hr.cell 9
              have y10 := hr.cell 10
              have y11 := hr.cell 11
              have y12 := hr.cell 12
              have y13 := hr.cell 13
              have y14 := hr.cell 14
              simp only [List.getElem?_cons_zero, List.getElem?_cons_succ] at y0 y1 y2 y3 y4 y5 y6 y7 y8 y9 y10 y11 y12 y13 y14
              clear hr
              obtain ⟨hD, hB, hC⟩ := fin_cs (cs := (stCs (⟨.slice none 0 0, .slice A acc.length c, .slice none 0 0, .slice none 0 0⟩ : SU) (⟨2, tb, [], acc, [], false, .zero, [], false, 0⟩ : Stm))) HP.out zg3 zg4 zg5 rr
              have hI1 : LsR itCs 7 itOk (setsW w3 w.heap.size 0 (stCs (⟨.slice none 0 0, .slice A acc.length c, .slice none 0 0, .slice none 0 0⟩ : SU) (⟨2, tb, [], acc, [], false, .zero, [], false, 0⟩ : Stm))) (fun q => w.heap.size ≤ q) (SU.items (⟨.slice none 0 0, .slice A acc.length c, .slice none 0 0, .slice none 0 0⟩ : SU)) (Stm.items (⟨2, tb, [], acc, [], false, .zero, [], false, 0⟩ : Stm)) := LsR.nil _ _
              have hI2 : LsR rwCs 1 rwOk (setsW w3 w.heap.size 0 (stCs (⟨.slice none 0 0, .slice A acc.length c, .slice none 0 0, .slice none 0 0⟩ : SU) (⟨2, tb, [], acc, [], false, .zero, [], false, 0⟩ : Stm))) (fun q => w.heap.size ≤ q) (SU.rows (⟨.slice none 0 0, .slice A acc.length c, .slice none 0 0, .slice none 0 0⟩ : SU)) (Stm.rows (⟨2, tb, [], acc, [], false, .zero, [], false, 0⟩ : Stm)) := ((HOV.out.ls rwK rwCs_len).keep rwK (hC.mono fun q _ (h : gs + 1 ≤ q) => by omega)).mono rwK (by omega) fun q _ (h : gs + 1 ≤ q) => by omega
              have hI3 : LsR asCs 7 asOk (setsW w3 w.heap.size 0 (stCs (⟨.slice none 0 0, .slice A acc.length c, .slice none 0 0, .slice none 0 0⟩ : SU) (⟨2, tb, [], acc, [], false, .zero, [], false, 0⟩ : Stm))) (fun q => w.heap.size ≤ q) (SU.sets (⟨.slice none 0 0, .slice A acc.length c, .slice none 0 0, .slice none 0 0⟩ : SU)) (Stm.sets (⟨2, tb, [], acc, [], false, .zero, [], false, 0⟩ : Stm)) := LsR.nil _ _
              have hI4 : ExR (setsW w3 w.heap.size 0 (stCs (⟨.slice none 0 0, .slice A acc.length c, .slice none 0 0, .slice none 0 0⟩ : SU) (⟨2, tb, [], acc, [], false, .zero, [], false, 0⟩ : Stm))) (fun q => w.heap.size ≤ q) (SU.cond (⟨.slice none 0 0, .slice A acc.length c, .slice none 0 0, .slice none 0 0⟩ : SU)) (Stm.cond (⟨2, tb, [], acc, [], false, .zero, [], false, 0⟩ : Stm)) := ExR.lf _ _ _ _ _
              have HST := Lib.hid (show StR (setsW w3 w.heap.size 0 (stCs (⟨.slice none 0 0, .slice A acc.length c, .slice none 0 0, .slice none 0 0⟩ : SU) (⟨2, tb, [], acc, [], false, .zero, [], false, 0⟩ : Stm))) (fun q => w.heap.size ≤ q) (⟨.slice none 0 0, .slice A acc.length c, .slice none 0 0, .slice none 0 0⟩ : SU) (⟨2, tb, [], acc, [], false, .zero, [], false, 0⟩ : Stm) from ⟨hI1, hI2, hI3, hI4⟩)
              have HD := Lib.hid hD
              have HB := Lib.hid hB
              have HS9 : Hid (Same (fun q => q ≠ g) w (setsW w3 w.heap.size 0 (stCs (⟨.slice none 0 0, .slice A acc.length c, .slice none 0 0, .slice none 0 0⟩ : SU) (⟨2, tb, [], acc, [], false, .zero, [], false, 0⟩ : Stm)))) := Lib.hid (Same.sets' (Nat.le_refl _) _ 0 HS.out)
              clear rr hD hB hC hI1 hI2 hI3 hI4
              go_wp2
              refine bodyPost_ret (stmt_results (u := (⟨.slice none 0 0, .slice A acc.length c, .slice none 0 0, .slice none 0 0⟩ : SU)) (s := (⟨2, tb, [], acc, [], false, .zero, [], false, 0⟩ : Stm)) (show Row _ _ _ (stCs (⟨.slice none 0 0, .slice A acc.length c, .slice none 0 0, .slice none 0 0⟩ : SU) (⟨2, tb, [], acc, [], false, .zero, [], false, 0⟩ : Stm)) from HD.out) rfl) rfl ?_
              rw [HX.out]
              exact ⟨_, rfl, ⟨_, rfl, HST.out⟩, HB.out, HS9.out⟩
            · have hp := HP.out
              rw [hq, if_pos rfl] at hp
              have HP := Lib.hid hp
              have hX := HX.out
              rw [hq, if_pos rfl] at hX
              have HX := Lib.hid hX
              clear hX
              have HQ := Lib.hid hq
              clear hq hp
              have htl := HPr.out.end_.tail (isT_kind HQ.out)
              have HTL := Lib.hid htl
              clear htl
              go_upto_region 9 with (fail)
              go_cut [34] from 25 to 38 (fun v wx => ∃ (W : World) (b : Bool), W = wx ∧ v = .bool b ∧ Hid (b = ((isT [40]) l'.tail && decide (acc.length = 16))) ∧ OwnL rwCs 1 32 rwOk W (gs + 1) (.slice A acc.length c) (acc) ∧ Row W gs 44 [.int .i64 2, .string (str tb), .slice none 0 0, .slice A acc.length c, .slice none 0 0, .bool false, .int .i64 0, .string ⟨#[]⟩, .int .i64 0, .int .i64 0, .string ⟨#[]⟩, .slice none 0 0, .string ⟨#[]⟩, .bool false, .int .i64 0] ∧ PS W g t l'.tail 0 ∧ Row W w.heap.size 44 [.int .i64 0, .string ⟨#[]⟩, .slice none 0 0, .slice none 0 0, .slice none 0 0, .bool false, .int .i64 0, .string ⟨#[]⟩, .int .i64 0, .int .i64 0, .string ⟨#[]⟩, .slice none 0 0, .string ⟨#[]⟩, .bool false, .int .i64 0] ∧ Same (fun q => q ≠ g) w W)
              case first =>
                go_wp2_with (go_at_call 86; refine stopAt ?_)
                unfold Hid
                refine (is_any g t l'.tail 0 [40] _ HP.out).mono ?_
                rintro e w4 ⟨rfl, hS⟩
                have hp := HP.out.keep hS
                have hS := hS.mono (S' := fun q => q ≠ g) fun _ _ _ => trivial
                have hSz := hS.size
                have HR := Lib.hid (HR.out.keep hS (by omega))
                have HRR := Lib.hid (HRR.out.keep hS (by omega))
                have HOV := Lib.hid (HOV.out.keep rwK hS fun q hq _ => by omega)
                have HS := Lib.hid (HS.out.trans hS)
                have HP := Lib.hid hp
                clear hp hS
                cases hb : (isT [40]) l'.tail
                · have HB := Lib.hid hb
                  clear hb
                  have hr := HR.out
                  have c2_ := hr.cell 3
                  simp only [List.getElem?_cons_zero, List.getElem?_cons_succ] at c2_
                  clear hr
                  go_wp2
                  go_meet
                  case rel => exact ⟨_, _, rfl, rfl, Lib.hid (by rw [HB.out]; by_cases h6 : acc.length = 16 <;> simp [h6]; try omega), HOV.out, HR.out, HP.out, HRR.out, HS.out⟩
                · have HB := Lib.hid hb
                  clear hb
                  have hr := HR.out
                  have c2_ := hr.cell 3
                  simp only [List.getElem?_cons_zero, List.getElem?_cons_succ] at c2_
                  clear hr
                  go_wp2
                  go_meet
                  case rel => exact ⟨_, _, rfl, rfl, Lib.hid (by rw [HB.out]; by_cases h6 : acc.length = 16 <;> simp [h6]; try omega), HOV.out, HR.out, HP.out, HRR.out, HS.out⟩
              case rest =>
                obtain ⟨W4, b, rfl, rfl, Hb, hov, hr, hp, hrr, hS⟩ := hcut
                have HOV := Lib.hid hov
                have HR := Lib.hid hr
                have HP := Lib.hid hp
                have HRR := Lib.hid hrr
                have HS := Lib.hid hS
                have hWz4 := hr.lt
                clear hov hr hp hrr hS
                cases b
                · have hX := HX.out
                  rw [← Hb.out, if_neg (by simp), then_assoc] at hX
                  have HX := Lib.hid hX
                  have HLN : Hid (acc.length ≤ 1000000) := Lib.hid (by have := HAL.out; omega)
                  clear hX
                  go_wp2_with (go_at_call 85; refine stopAt ?_)
                  unfold Hid
                  refine (row_any g t gs (⟨.slice none 0 0, .slice A acc.length c, .slice none 0 0, .slice none 0 0⟩ : SU) (⟨2, tb, [], acc, [], false, .zero, [], false, 0⟩ : Stm) l'.tail W4 HP.out (show Row W4 gs 44 (stCs (⟨.slice none 0 0, .slice A acc.length c, .slice none 0 0, .slice none 0 0⟩ : SU) (⟨2, tb, [], acc, [], false, .zero, [], false, 0⟩ : Stm)) from HR.out) HLG.out HOV.out (by have := HLN.out; dsimp only [List.length_nil]; omega)).mono ?_
                  intro e w5 hR_
                  cases hx : rowT l'.tail with
                  | error p =>
                    rw [hx] at hR_
                    obtain ⟨rfl, hE⟩ := hR_
                    have hq : DoP g t 0 X (StG w.heap.size) w (.panicked [{ v := failV p.1 p.2, recovered := false }]) w5 := by
                      rw [HX.out, hx]
                      exact ⟨rfl, HS.out.trans' hE fun q hq h => ⟨h, by omega⟩⟩
                    exact ⟨rfl, hq⟩
                  | ok q =>
                    obtain ⟨y, l5⟩ := q
                    have HXK := Lib.hid hx
                    rw [hx] at hR_
                    obtain ⟨v, rfl, ⟨rfl, z, hr, ho⟩, hp, hS⟩ := hR_
                    have hX := HX.out
                    rw [hx, thenT_ok] at hX
                    have HX := Lib.hid hX
                    have hSz := hS.size
                    have HRR := Lib.hid (HRR.out.keep hS ⟨by omega, by omega⟩)
                    have HS := Lib.hid (HS.out.trans' hS fun q hq h => ⟨h, by omega⟩)
                    obtain ⟨Az, cz, rfl, hz1, hz2⟩ := ho.form
                    have HR := Lib.hid hr
                    have HOV := Lib.hid ho
                    have HP := Lib.hid hp
                    clear hX hx hr ho hp hS
                    have hfit := row_fit l'.tail HTL.out.1 _ _ HXK.out
                    have hl1 : l5.length ≤ k' := by have := hfit.2; have := HTL.out.2; have := HLK.out; omega
                    have hl2 : (acc ++ [y]).length + l5.length ≤ 1000001 := by have := hfit.2; have := HTL.out.2; have := HAL.out; rw [List.length_append, List.length_singleton]; omega
                    have hl3 : l5.length < l'.length := by have := hfit.2; have := HTL.out.2; omega
                    have hla := HP.out.len
                    have hlb := HPr.out.len
                    clear hfit
                    go_wp2
                    go_roundw
                    case rel => exact ⟨k', acc ++ [y], l5, Az, cz, HX.out, hl1, hl2, HOV.out, HR.out, HP.out, HRR.out, HS.out⟩
                    case measure => omega
                · have hX := HX.out
                  rw [← Hb.out, if_pos rfl] at hX
                  have HX := Lib.hid hX
                  clear hX
                  go_wp2_with (go_at_call 39; refine stopAt ?_)
                  unfold Hid
                  refine (wrong_any g t l'.tail 0 3 _ HP.out).mono ?_
                  rintro e w5 ⟨rfl, hE⟩
                  have hq : DoP g t 0 X (StG w.heap.size) w (.panicked [{ v := failV (hdT l'.tail).1 3, recovered := false }]) w5 := by
                    rw [HX.out]
                    exact ⟨rfl, HS.out.trans hE⟩
                  exact ⟨rfl, hq⟩
end Go.Proofs.YtdfojghhpdkpfaaGreatDoor
