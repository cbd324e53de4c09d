/-
  Words, plain models, laws and walks that the claims of this layer share (joined by shake.py). No condition.
-/
import Derived.Test.YtdfojghhpdkpfaaGreatDoorA8
set_option linter.unusedSimpArgs false
set_option linter.unusedVariables false
namespace Go.Proofs.YtdfojghhpdkpfaaGreatDoor
open Go.RowKit
set_option maxRecDepth 100000 in
set_option maxHeartbeats 16000000 in
theorem stmt_upd (g t : Nat) (l : List PT) (w : World) (h : PS w g t l 0) (h0 : isT wSELECT l = false) (h1 : isT wINSERT l = false) (h2 : isT wUPDATE l = true) : Calls Tryz.prog 36 #[pV g] w (DoP g t 0 (updateT l.tail) (StG w.heap.size) w) := by
  obtain ⟨X, hX⟩ : ∃ X, X = updateT l.tail := ⟨_, rfl⟩
  rw [← hX]
  have HX := Lib.hid hX
  have H0 := Lib.hid h0
  have H1 := Lib.hid h1
  have H2 := Lib.hid h2
  obtain ⟨zg3, zg4, zg5⟩ := h.lt3
  have hS0 := (Same.refl (fun _ => True) w).alloc (.cells zst.toArray 44)
  have hz0 : (w.alloc (.cells zst.toArray 44)).heap.size = w.heap.size + 1 := by simp
  have HRR := Lib.hid (Row.new w 44 zst)
  have HP := Lib.hid (h.keep hS0)
  have HS := Lib.hid (hS0.mono (S' := fun q => q ≠ g) fun _ _ _ => trivial)
  clear h hX hS0 h0 h1 h2
  have hX := HX.out
  unfold updateT listT at hX
  have HX := Lib.hid hX
  clear hX
  go_enter Tryz.func36, Tryz.ntmps36
  go_wp2_with (go_at_call 37; refine stopAt ?_)
  unfold Hid
  simp only [zst] at HRR HP HS hz0
  revert HRR HP HS hz0
  generalize w.alloc _ = w0
  intro hz0 HRR HP HS
  refine (take_any g t l 0 wSELECT _ HP.out).mono ?_
  rintro e w1 ⟨rfl, hp, hS⟩
  have hSz := hS.size
  have HRR := Lib.hid (HRR.out.keep hS (by omega))
  have HS := Lib.hid (HS.out.trans hS)
  have HP := Lib.hid hp
  clear hp hS
  have hp := HP.out
  rw [H0.out, if_neg (by simp)] at hp
  have HP := Lib.hid hp
  clear hp
  rw [H0.out]
  go_wp2_with (go_at_call 37; refine stopAt ?_)
  unfold Hid
  refine (take_any g t l 0 wINSERT _ HP.out).mono ?_
  rintro e w2 ⟨rfl, hp, hS⟩
  have hSz := hS.size
  have HRR := Lib.hid (HRR.out.keep hS (by omega))
  have HS := Lib.hid (HS.out.trans hS)
  have HP := Lib.hid hp
  clear hp hS
  have hp := HP.out
  rw [H1.out, if_neg (by simp)] at hp
  have HP := Lib.hid hp
  clear hp
  rw [H1.out]
  go_wp2_with (go_at_call 37; refine stopAt ?_)
  unfold Hid
  refine (take_any g t l 0 wUPDATE _ HP.out).mono ?_
  rintro e w3 ⟨rfl, hp, hS⟩
  have hSz := hS.size
  have HRR := Lib.hid (HRR.out.keep hS (by omega))
  have HS := Lib.hid (HS.out.trans hS)
  have HP := Lib.hid hp
  clear hp hS
  have hp := HP.out
  rw [H2.out, if_pos rfl] at hp
  have HP := Lib.hid hp
  clear hp
  rw [H2.out]
  go_wp2_with (go_at_call 84; refine stopAt ?_)
  unfold Hid
  refine (name_any g t l.tail 0 _ HP.out).mono ?_
  intro e wn hR_
  cases hx : nameT l.tail with
  | error p =>
    rw [hx] at hR_
    obtain ⟨rfl, hE⟩ := hR_
    have hq : DoP g t 0 X (StG w.heap.size) w (.panicked [{ v := failV p.1 p.2, recovered := false }]) wn := by
      rw [HX.out, hx]
      exact ⟨rfl, HS.out.trans hE⟩
    exact ⟨rfl, hq⟩
  | ok q =>
    obtain ⟨tb, l2⟩ := q
    rw [hx] at hR_
    obtain ⟨v, rfl, rfl, hp, hS⟩ := hR_
    have hX := HX.out
    rw [hx, thenT_ok] at hX
    have HX := Lib.hid hX
    clear hX hx
    have hSz := hS.size
    have HRR := Lib.hid (HRR.out.keep hS (by omega))
    have HS := Lib.hid (HS.out.trans hS)
    have HP := Lib.hid hp
    clear hp hS
    have hr0 := Row.new wn 44 ([.int .i64 3, .string (str tb), .slice none 0 0, .slice none 0 0, .slice none 0 0, .bool false, .int .i64 0, .string ⟨#[]⟩, .int .i64 0, .int .i64 0, .string ⟨#[]⟩, .slice none 0 0, .string ⟨#[]⟩, .bool false, .int .i64 0] : List Value)
    have hSA := (Same.refl (fun _ => True) wn).alloc (.cells ([.int .i64 3, .string (str tb), .slice none 0 0, .slice none 0 0, .slice none 0 0, .bool false, .int .i64 0, .string ⟨#[]⟩, .int .i64 0, .int .i64 0, .string ⟨#[]⟩, .slice none 0 0, .string ⟨#[]⟩, .bool false, .int .i64 0] : List Value).toArray 44)
    have hzA : (wn.alloc (.cells ([.int .i64 3, .string (str tb), .slice none 0 0, .slice none 0 0, .slice none 0 0, .bool false, .int .i64 0, .string ⟨#[]⟩, .int .i64 0, .int .i64 0, .string ⟨#[]⟩, .slice none 0 0, .string ⟨#[]⟩, .bool false, .int .i64 0] : List Value).toArray 44)).heap.size = wn.heap.size + 1 := by simp
    have hp0 := HP.out.keep hSA
    have hSA := hSA.mono (S' := fun q => q ≠ g) fun _ _ _ => trivial
    have hrr0 := HRR.out.keep hSA (by omega)
    have hs0 := HS.out.trans hSA
    have hgw := HRR.out.lt
    have HR := Lib.hid hr0
    have HP := Lib.hid hp0
    have HRR := Lib.hid hrr0
    have HS := Lib.hid hs0
    clear hr0 hSA hp0 hrr0 hs0
    go_wp2_with (go_at_call 40; refine stopAt ?_)
    unfold Hid
    revert hzA HR HP HRR HS
    generalize wn.alloc _ = wA
    intro hzA HR HP HRR HS
    rw [← hzA]
    obtain ⟨gs, hgs⟩ : ∃ gs, gs = wn.heap.size := ⟨_, rfl⟩
    rw [← hgs] at HR ⊢
    have hg1 : w.heap.size < gs := by omega
    have hg2 : gs < wA.heap.size := by omega
    have hgG : g < gs := by omega
    have HLG : Hid (g < gs ∧ t < gs ∧ 1 < gs) := Lib.hid ⟨by omega, by omega, by omega⟩
    clear hgs hzA
    refine (must_at g t l2 0 [wSET] _ HP.out).mono ?_
    intro e wv hR_
    cases hx : mustT [wSET] l2 with
    | error p =>
      rw [hx] at hR_
      obtain ⟨rfl, hE⟩ := hR_
      have hq : DoP g t 0 X (StG w.heap.size) w (.panicked [{ v := failV p.1 p.2, recovered := false }]) wv := by
        rw [HX.out, hx]
        exact ⟨rfl, HS.out.trans hE⟩
      exact ⟨rfl, hq⟩
    | ok q =>
      obtain ⟨⟨⟩, l3⟩ := q
      rw [hx] at hR_
      obtain ⟨v, rfl, rfl, hp, hS⟩ := hR_
      have hX := HX.out
      rw [hx, thenT_ok] at hX
      have HX := Lib.hid hX
      clear hX hx
      have hSz := hS.size
      have HR := Lib.hid (HR.out.keep hS (by omega))
      have HRR := Lib.hid (HRR.out.keep hS (by omega))
      have HS := Lib.hid (HS.out.trans hS)
      have HP := Lib.hid hp
      clear hp hS
      have hX := HX.out
      rw [then_assoc] at hX
      have HX : Hid (X = thenT (assignT l3) fun a l => thenT (sepT (isT [44]) assignT namedT 6 l.length [a] l) (fun ss l3 => whereT ⟨3, tb, [], [], ss, false, .zero, [], false, 0⟩ l3)) := Lib.hid hX
      have HOV : Hid (OwnL asCs 7 65 asOk wv (gs + 1) (.slice none 0 0) []) := Lib.hid (OwnL.nil _ _)
      have HLN : Hid (0 ≤ 1000000) := Lib.hid (by omega)
      clear hX
      go_wp2_with (go_at_call 87; refine stopAt ?_)
      unfold Hid
      refine (assign_any g t gs (⟨.slice none 0 0, .slice none 0 0, .slice none 0 0, .slice none 0 0⟩ : SU) (⟨3, tb, [], [], [], false, .zero, [], false, 0⟩ : Stm) l3 wv HP.out (show Row wv gs 44 (stCs (⟨.slice none 0 0, .slice none 0 0, .slice none 0 0, .slice none 0 0⟩ : SU) (⟨3, tb, [], [], [], false, .zero, [], false, 0⟩ : Stm)) from HR.out) HLG.out HOV.out (by have := HLN.out; dsimp only [List.length_nil]; omega)).mono ?_
      intro e wr0 hR_
      cases hx : assignT l3 with
      | error p =>
        rw [hx] at hR_
        obtain ⟨rfl, hE⟩ := hR_
        have hq : DoP g t 0 X (StG w.heap.size) w (.panicked [{ v := failV p.1 p.2, recovered := false }]) wr0 := by
          rw [HX.out, hx]
          exact ⟨rfl, HS.out.trans' hE fun q hq h => ⟨h, by omega⟩⟩
        exact ⟨rfl, hq⟩
      | ok q =>
        obtain ⟨y, l4⟩ := q
        have HXK := Lib.hid hx
        rw [hx] at hR_
        obtain ⟨v, rfl, ⟨rfl, z, hr, ho⟩, hp, hS⟩ := hR_
        have hX := HX.out
        rw [hx, thenT_ok] at hX
        have HX := Lib.hid hX
        have hSz := hS.size
        have HRR := Lib.hid (HRR.out.keep hS ⟨by omega, by omega⟩)
        have HS := Lib.hid (HS.out.trans' hS fun q hq h => ⟨h, by omega⟩)
        obtain ⟨Az, cz, rfl, hz1, hz2⟩ := ho.form
        have HR := Lib.hid hr
        have HOV := Lib.hid ho
        have HP := Lib.hid hp
        clear hX hx hr ho hp hS
        go_wp2
        go_loopw [] (fun wr => ∃ (k : Nat) (acc : List Asn) (l' : List PT) (A : Option Addr) (c : Nat), X = thenT (sepT (isT [44]) assignT namedT 6 k acc l') (fun ss l3 => whereT ⟨3, tb, [], [], ss, false, .zero, [], false, 0⟩ l3) ∧ l'.length ≤ k ∧ acc.length + l'.length ≤ 1000001 ∧ OwnL asCs 7 65 asOk wr (gs + 1) (.slice A acc.length c) (acc) ∧ Row wr gs 44 [.int .i64 3, .string (str tb), .slice none 0 0, .slice none 0 0, .slice A acc.length c, .bool false, .int .i64 0, .string ⟨#[]⟩, .int .i64 0, .int .i64 0, .string ⟨#[]⟩, .slice none 0 0, .string ⟨#[]⟩, .bool false, .int .i64 0] ∧ PS wr g t l' 0 ∧ Row wr w.heap.size 44 [.int .i64 0, .string ⟨#[]⟩, .slice none 0 0, .slice none 0 0, .slice none 0 0, .bool false, .int .i64 0, .string ⟨#[]⟩, .int .i64 0, .int .i64 0, .string ⟨#[]⟩, .slice none 0 0, .string ⟨#[]⟩, .bool false, .int .i64 0] ∧ Same (fun q => q ≠ g) w wr) (fun wr => tokLen wr g)
        case atStart => exact ⟨_, [y], l4, _, _, HX.out, Nat.le_refl _, by have := HP.out.short; simp; omega, HOV.out, HR.out, HP.out, HRR.out, HS.out⟩
        case round =>
          clear HX HP HOV HS HR HRR
          obtain ⟨k, acc, l', A, c, hX, hlk, hal, hov, hr, hp, hrr, hS⟩ := hrel
          obtain ⟨hv1, hv2⟩ : acc.length ≤ c ∧ c ≤ maxLen := by
            obtain ⟨A', c', e', q1, q2⟩ := hov.form
            injection e' with e1 e2 e3
            subst e3
            exact ⟨q1, q2⟩
          have hpos := hp.end_.pos
          obtain ⟨k', rfl⟩ : ∃ k', k = k' + 1 := ⟨k - 1, by omega⟩
          unfold sepT at hX
          unfold maxLen at hv2
          have HX := Lib.hid hX
          have HLK := Lib.hid hlk
          have HAL := Lib.hid hal
          have HOV := Lib.hid hov
          have HP := Lib.hid hp
          have HPr := HP
          have HR := Lib.hid hr
          have HRR := Lib.hid hrr
          have HS := Lib.hid hS
          have hWz := hr.lt
          clear hX hlk hal hov hp hS hr hrr
          go_wp2_with (go_at_call 37; refine stopAt ?_)
          unfold Hid
          refine (take_any g t l' 0 [44] _ HP.out).mono ?_
          rintro e w3 ⟨rfl, hp, hS⟩
          have hSz := hS.size
          have HR := Lib.hid (HR.out.keep hS (by omega))
          have HRR := Lib.hid (HRR.out.keep hS (by omega))
          have HOV := Lib.hid (HOV.out.keep asK hS fun q hq _ => by omega)
          have HS := Lib.hid (HS.out.trans hS)
          have HP := Lib.hid hp
          clear hp hS
          cases hq : isT [44] l'
          · have hp := HP.out
            rw [hq, if_neg (by simp)] at hp
            have HP := Lib.hid hp
            have hX := HX.out
            rw [hq, if_neg (by simp)] at hX
            have HX := Lib.hid hX
            clear hX
            have HQ := Lib.hid hq
            clear hq hp
            have hX := HX.out
            rw [thenT_ok] at hX
            have HX := Lib.hid hX
            clear hX
            have hX := HX.out
            rw [← then_id (whereT (⟨3, tb, [], [], acc, false, .zero, [], false, 0⟩ : Stm) l')] at hX
            have HX := Lib.hid hX
            clear hX
            go_wp2_with (go_at_call 89; refine stopAt ?_)
            unfold Hid
            refine (where_any g t gs (⟨.slice none 0 0, .slice none 0 0, .slice A acc.length c, .slice none 0 0⟩ : SU) (⟨3, tb, [], [], acc, false, .zero, [], false, 0⟩ : Stm) l' w3 HP.out (show Row w3 gs 44 (stCs (⟨.slice none 0 0, .slice none 0 0, .slice A acc.length c, .slice none 0 0⟩ : SU) (⟨3, tb, [], [], acc, false, .zero, [], false, 0⟩ : Stm)) from HR.out) HLG.out rfl rfl rfl).mono ?_
            intro e ww hR_
            cases hx : whereT (⟨3, tb, [], [], acc, false, .zero, [], false, 0⟩ : Stm) l' with
            | error p =>
              rw [hx] at hR_
              obtain ⟨rfl, hE⟩ := hR_
              have hq : DoP g t 0 X (StG w.heap.size) w (.panicked [{ v := failV p.1 p.2, recovered := false }]) ww := by
                rw [HX.out, hx]
                exact ⟨rfl, HS.out.trans' hE fun q hq h => ⟨h, by omega⟩⟩
              exact ⟨rfl, hq⟩
            | ok q =>
              obtain ⟨sx, l9⟩ := q
              rw [hx] at hR_
              obtain ⟨v, rfl, ⟨rfl, uc, hr, hc⟩, hp, hS⟩ := hR_
              have hX := HX.out
              rw [hx, thenT_ok] at hX
              obtain ⟨ft, cd, rfl⟩ := where_ok2 hx
              have HX := Lib.hid hX
              have hSz := hS.size
              have HRR := Lib.hid (HRR.out.keep hS ⟨by omega, by omega⟩)
              have HS := Lib.hid (HS.out.trans' hS fun q hq h => ⟨h, by omega⟩)
              have HOV := Lib.hid (HOV.out.keep asK hS fun q hq _ => ⟨by omega, by omega⟩)
              obtain ⟨Ac, cc, rfl, -, -⟩ := (show ExR ww (fun q => gs < q) uc cd from hc).toL.form
              have HC : Hid (ExR ww (fun q => gs < q) (.slice Ac cd.args.length cc) cd) := Lib.hid hc
              have HR : Hid (Row ww gs 44 [.int .i64 3, .string (str tb), .slice none 0 0, .slice none 0 0, .slice A acc.length c, .bool ft, .int .i64 cd.kind, .string (str cd.s), .int .i64 cd.v.kind, .int .i64 cd.v.n, .string (str cd.v.s), .slice Ac cd.args.length cc, .string ⟨#[]⟩, .bool false, .int .i64 0]) := Lib.hid hr
              have HP := Lib.hid hp
              clear hX hx hr hc hp hS
              generalize cd.args.length = nc at *
              have rr := HRR.out
              have q0 := rr.cell 0
              have q1 := rr.cell 1
              have q2 := rr.cell 2
              have q3 := rr.cell 3
              have q4 := rr.cell 4
              have q5 := rr.cell 5
              have q6 := rr.cell 6
              have q7 := rr.cell 7
              have q8 := rr.cell 8
              have q9 := rr.cell 9
              have q10 := rr.cell 10
              have q11 := rr.cell 11
              have q12 := rr.cell 12
              have q13 := rr.cell 13
              have q14 := rr.cell 14
              simp only [List.getElem?_cons_zero, List.getElem?_cons_succ] at q0 q1 q2 q3 q4 q5 q6 q7 q8 q9 q10 q11 q12 q13 q14
              have x0 := rr.frozen 0
              have x1 := rr.frozen 1
              have x2 := rr.frozen 2
              have x3 := rr.frozen 3
              have x4 := rr.frozen 4
              have x5 := rr.frozen 5
              have x6 := rr.frozen 6
              have x7 := rr.frozen 7
              have x8 := rr.frozen 8
              have x9 := rr.frozen 9
              have x10 := rr.frozen 10
              have x11 := rr.frozen 11
              have x12 := rr.frozen 12
              have x13 := rr.frozen 13
              have x14 := rr.frozen 14
              have zr := rr.lt
              have hr := HR.out
              have y0 := hr.cell 0
              have y1 := hr.cell 1
              have y2 := hr.cell 2
              have y3 := hr.cell 3
              have y4 := hr.cell 4
              have y5 := hr.cell 5
              have y6 := hr.cell 6
              have y7 := hr.cell 7
              have y8 := hr.cell 8
              have y9 := hr.cell 9
              have y10 := hr.cell 10
              have y11 := hr.cell 11
              have y12 := hr.cell 12
              have y13 := hr.cell 13
              have y14 := hr.cell 14
              simp only [List.getElem?_cons_zero, List.getElem?_cons_succ] at y0 y1 y2 y3 y4 y5 y6 y7 y8 y9 y10 y11 y12 y13 y14
              clear hr
              obtain ⟨hD, hB, hC⟩ := fin_cs (cs := (stCs (⟨.slice none 0 0, .slice none 0 0, .slice A acc.length c, .slice Ac nc cc⟩ : SU) (⟨3, tb, [], [], acc, ft, cd, [], false, 0⟩ : Stm))) HP.out zg3 zg4 zg5 rr
              have hI1 : LsR itCs 7 itOk (setsW ww w.heap.size 0 (stCs (⟨.slice none 0 0, .slice none 0 0, .slice A acc.length c, .slice Ac nc cc⟩ : SU) (⟨3, tb, [], [], acc, ft, cd, [], false, 0⟩ : Stm))) (fun q => w.heap.size ≤ q) (SU.items (⟨.slice none 0 0, .slice none 0 0, .slice A acc.length c, .slice Ac nc cc⟩ : SU)) (Stm.items (⟨3, tb, [], [], acc, ft, cd, [], false, 0⟩ : Stm)) := LsR.nil _ _
              have hI2 : LsR rwCs 1 rwOk (setsW ww w.heap.size 0 (stCs (⟨.slice none 0 0, .slice none 0 0, .slice A acc.length c, .slice Ac nc cc⟩ : SU) (⟨3, tb, [], [], acc, ft, cd, [], false, 0⟩ : Stm))) (fun q => w.heap.size ≤ q) (SU.rows (⟨.slice none 0 0, .slice none 0 0, .slice A acc.length c, .slice Ac nc cc⟩ : SU)) (Stm.rows (⟨3, tb, [], [], acc, ft, cd, [], false, 0⟩ : Stm)) := LsR.nil _ _
              have hI3 : LsR asCs 7 asOk (setsW ww w.heap.size 0 (stCs (⟨.slice none 0 0, .slice none 0 0, .slice A acc.length c, .slice Ac nc cc⟩ : SU) (⟨3, tb, [], [], acc, ft, cd, [], false, 0⟩ : Stm))) (fun q => w.heap.size ≤ q) (SU.sets (⟨.slice none 0 0, .slice none 0 0, .slice A acc.length c, .slice Ac nc cc⟩ : SU)) (Stm.sets (⟨3, tb, [], [], acc, ft, cd, [], false, 0⟩ : Stm)) := ((HOV.out.ls asK asCs_len).keep asK (hC.mono fun q _ (h : gs + 1 ≤ q) => by omega)).mono asK (by omega) fun q _ (h : gs + 1 ≤ q) => by omega
              have hI4 : ExR (setsW ww w.heap.size 0 (stCs (⟨.slice none 0 0, .slice none 0 0, .slice A acc.length c, .slice Ac nc cc⟩ : SU) (⟨3, tb, [], [], acc, ft, cd, [], false, 0⟩ : Stm))) (fun q => w.heap.size ≤ q) (SU.cond (⟨.slice none 0 0, .slice none 0 0, .slice A acc.length c, .slice Ac nc cc⟩ : SU)) (Stm.cond (⟨3, tb, [], [], acc, ft, cd, [], false, 0⟩ : Stm)) := (HC.out.keep (hC.mono fun q _ (h : gs < q) => by omega)).mono fun q _ (h : gs < q) => by omega
              have HST := Lib.hid (show StR (setsW ww w.heap.size 0 (stCs (⟨.slice none 0 0, .slice none 0 0, .slice A acc.length c, .slice Ac nc cc⟩ : SU) (⟨3, tb, [], [], acc, ft, cd, [], false, 0⟩ : Stm))) (fun q => w.heap.size ≤ q) (⟨.slice none 0 0, .slice none 0 0, .slice A acc.length c, .slice Ac nc cc⟩ : SU) (⟨3, tb, [], [], acc, ft, cd, [], false, 0⟩ : Stm) from ⟨hI1, hI2, hI3, hI4⟩)
              have HD := Lib.hid hD
              have HB := Lib.hid hB
              have HS9 : Hid (Same (fun q => q ≠ g) w (setsW ww w.heap.size 0 (stCs (⟨.slice none 0 0, .slice none 0 0, .slice A acc.length c, .slice Ac nc cc⟩ : SU) (⟨3, tb, [], [], acc, ft, cd, [], false, 0⟩ : Stm)))) := Lib.hid (Same.sets' (Nat.le_refl _) _ 0 HS.out)
              clear rr hD hB hC hI1 hI2 hI3 hI4
              go_wp2
              refine bodyPost_ret (stmt_results (u := (⟨.slice none 0 0, .slice none 0 0, .slice A acc.length c, .slice Ac nc cc⟩ : SU)) (s := (⟨3, tb, [], [], acc, ft, cd, [], false, 0⟩ : Stm)) (show Row _ _ _ (stCs (⟨.slice none 0 0, .slice none 0 0, .slice A acc.length c, .slice Ac nc cc⟩ : SU) (⟨3, tb, [], [], acc, ft, cd, [], false, 0⟩ : Stm)) from HD.out) rfl) rfl ?_
              rw [HX.out]
              exact ⟨_, rfl, ⟨_, rfl, HST.out⟩, HB.out, HS9.out⟩
          · have hp := HP.out
            rw [hq, if_pos rfl] at hp
            have HP := Lib.hid hp
            have hX := HX.out
            rw [hq, if_pos rfl] at hX
            have HX := Lib.hid hX
            clear hX
            have HQ := Lib.hid hq
            clear hq hp
            have htl := HPr.out.end_.tail (isT_kind HQ.out)
            have HTL := Lib.hid htl
            clear htl
            go_upto_region 18 with (fail)
            go_cut [60] from 51 to 64 (fun v wx => ∃ (W : World) (b : Bool), W = wx ∧ v = .bool b ∧ Hid (b = (namedT l'.tail && decide (acc.length = 6))) ∧ OwnL asCs 7 65 asOk W (gs + 1) (.slice A acc.length c) (acc) ∧ Row W gs 44 [.int .i64 3, .string (str tb), .slice none 0 0, .slice none 0 0, .slice A acc.length c, .bool false, .int .i64 0, .string ⟨#[]⟩, .int .i64 0, .int .i64 0, .string ⟨#[]⟩, .slice none 0 0, .string ⟨#[]⟩, .bool false, .int .i64 0] ∧ PS W g t l'.tail 0 ∧ Row W w.heap.size 44 [.int .i64 0, .string ⟨#[]⟩, .slice none 0 0, .slice none 0 0, .slice none 0 0, .bool false, .int .i64 0, .string ⟨#[]⟩, .int .i64 0, .int .i64 0, .string ⟨#[]⟩, .slice none 0 0, .string ⟨#[]⟩, .bool false, .int .i64 0] ∧ Same (fun q => q ≠ g) w W)
            case first =>
              go_wp2_with (go_at_call 88; refine stopAt ?_)
              unfold Hid
              refine (named_any g t l'.tail 0 _ HP.out).mono ?_
              rintro e w4 ⟨rfl, hS⟩
              have hp := HP.out.keep hS
              have hS := hS.mono (S' := fun q => q ≠ g) fun _ _ _ => trivial
              have hSz := hS.size
              have HR := Lib.hid (HR.out.keep hS (by omega))
              have HRR := Lib.hid (HRR.out.keep hS (by omega))
              have HOV := Lib.hid (HOV.out.keep asK hS fun q hq _ => by omega)
              have HS := Lib.hid (HS.out.trans hS)
              have HP := Lib.hid hp
              clear hp hS
              cases hb : namedT l'.tail
              · have HB := Lib.hid hb
                clear hb
                have hr := HR.out
                have c2_ := hr.cell 4
                simp only [List.getElem?_cons_zero, List.getElem?_cons_succ] at c2_
                clear hr
                go_wp2
                go_meet
                case rel => exact ⟨_, _, rfl, rfl, Lib.hid (by rw [HB.out]; by_cases h6 : acc.length = 6 <;> simp [h6]; try omega), HOV.out, HR.out, HP.out, HRR.out, HS.out⟩
              · have HB := Lib.hid hb
                clear hb
                have hr := HR.out
                have c2_ := hr.cell 4
                simp only [List.getElem?_cons_zero, List.getElem?_cons_succ] at c2_
                clear hr
                go_wp2
                go_meet
                case rel => exact ⟨_, _, rfl, rfl, Lib.hid (by rw [HB.out]; by_cases h6 : acc.length = 6 <;> simp [h6]; try omega), HOV.out, HR.out, HP.out, HRR.out, HS.out⟩
            case rest =>
              obtain ⟨W4, b, rfl, rfl, Hb, hov, hr, hp, hrr, hS⟩ := hcut
              have HOV := Lib.hid hov
              have HR := Lib.hid hr
              have HP := Lib.hid hp
              have HRR := Lib.hid hrr
              have HS := Lib.hid hS
              have hWz4 := hr.lt
              clear hov hr hp hrr hS
              cases b
              · have hX := HX.out
                rw [← Hb.out, if_neg (by simp), then_assoc] at hX
                have HX := Lib.hid hX
                have HLN : Hid (acc.length ≤ 1000000) := Lib.hid (by have := HAL.out; omega)
                clear hX
                go_wp2_with (go_at_call 87; refine stopAt ?_)
                unfold Hid
                refine (assign_any g t gs (⟨.slice none 0 0, .slice none 0 0, .slice A acc.length c, .slice none 0 0⟩ : SU) (⟨3, tb, [], [], acc, false, .zero, [], false, 0⟩ : Stm) l'.tail W4 HP.out (show Row W4 gs 44 (stCs (⟨.slice none 0 0, .slice none 0 0, .slice A acc.length c, .slice none 0 0⟩ : SU) (⟨3, tb, [], [], acc, false, .zero, [], false, 0⟩ : Stm)) from HR.out) HLG.out HOV.out (by have := HLN.out; dsimp only [List.length_nil]; omega)).mono ?_
                intro e w5 hR_
                cases hx : assignT l'.tail with
                | error p =>
                  rw [hx] at hR_
                  obtain ⟨rfl, hE⟩ := hR_
                  have hq : DoP g t 0 X (StG w.heap.size) w (.panicked [{ v := failV p.1 p.2, recovered := false }]) w5 := by
                    rw [HX.out, hx]
                    exact ⟨rfl, HS.out.trans' hE fun q hq h => ⟨h, by omega⟩⟩
                  exact ⟨rfl, hq⟩
                | ok q =>
                  obtain ⟨y, l5⟩ := q
                  have HXK := Lib.hid hx
                  rw [hx] at hR_
                  obtain ⟨v, rfl, ⟨rfl, z, hr, ho⟩, hp, hS⟩ := hR_
                  have hX := HX.out
                  rw [hx, thenT_ok] at hX
                  have HX := Lib.hid hX
                  have hSz := hS.size
                  have HRR := Lib.hid (HRR.out.keep hS ⟨by omega, by omega⟩)
                  have HS := Lib.hid (HS.out.trans' hS fun q hq h => ⟨h, by omega⟩)
                  obtain ⟨Az, cz, rfl, hz1, hz2⟩ := ho.form
                  have HR := Lib.hid hr
                  have HOV := Lib.hid ho
                  have HP := Lib.hid hp
                  clear hX hx hr ho hp hS
                  have hfit := assign_fit l'.tail HTL.out.1 _ _ HXK.out
                  have hl1 : l5.length ≤ k' := by have := hfit.2; have := HTL.out.2; have := HLK.out; omega
                  have hl2 : (acc ++ [y]).length + l5.length ≤ 1000001 := by have := hfit.2; have := HTL.out.2; have := HAL.out; rw [List.length_append, List.length_singleton]; omega
                  have hl3 : l5.length < l'.length := by have := hfit.2; have := HTL.out.2; omega
                  have hla := HP.out.len
                  have hlb := HPr.out.len
                  clear hfit
                  go_wp2
                  go_roundw
                  case rel => exact ⟨k', acc ++ [y], l5, Az, cz, HX.out, hl1, hl2, HOV.out, HR.out, HP.out, HRR.out, HS.out⟩
                  case measure => omega
              · have hX := HX.out
                rw [← Hb.out, if_pos rfl] at hX
                have HX := Lib.hid hX
                clear hX
                go_wp2_with (go_at_call 39; refine stopAt ?_)
                unfold Hid
                refine (wrong_any g t l'.tail 0 3 _ HP.out).mono ?_
                rintro e w5 ⟨rfl, hE⟩
                have hq : DoP g t 0 X (StG w.heap.size) w (.panicked [{ v := failV (hdT l'.tail).1 3, recovered := false }]) w5 := by
                  rw [HX.out]
                  exact ⟨rfl, HS.out.trans hE⟩
                exact ⟨rfl, hq⟩
set_option maxRecDepth 100000 in
set_option maxHeartbeats 16000000 in
theorem stmt_del (g t : Nat) (l : List PT) (w : World) (h : PS w g t l 0) (h0 : isT wSELECT l = false) (h1 : isT wINSERT l = false) (h2 : isT wUPDATE l = false) : Calls Tryz.prog 36 #[pV g] w (DoP g t 0 (deleteT l) (StG w.heap.size) w) := by
  obtain ⟨X, hX⟩ : ∃ X, X = deleteT l := ⟨_, rfl⟩
  rw [← hX]
  have HX := Lib.hid hX
  have H0 := Lib.hid h0
  have H1 := Lib.hid h1
  have H2 := Lib.hid h2
  obtain ⟨zg3, zg4, zg5⟩ := h.lt3
  have hS0 := (Same.refl (fun _ => True) w).alloc (.cells zst.toArray 44)
  have hz0 : (w.alloc (.cells zst.toArray 44)).heap.size = w.heap.size + 1 := by simp
  have HRR := Lib.hid (Row.new w 44 zst)
  have HP := Lib.hid (h.keep hS0)
  have HS := Lib.hid (hS0.mono (S' := fun q => q ≠ g) fun _ _ _ => trivial)
  clear h hX hS0 h0 h1 h2
  have hX := HX.out
  unfold deleteT at hX
  have HX := Lib.hid hX
  clear hX
  go_enter Tryz.func36, Tryz.ntmps36
  go_wp2_with (go_at_call 37; refine stopAt ?_)
  unfold Hid
  simp only [zst] at HRR HP HS hz0
  revert HRR HP HS hz0
  generalize w.alloc _ = w0
  intro hz0 HRR HP HS
  refine (take_any g t l 0 wSELECT _ HP.out).mono ?_
  rintro e w1 ⟨rfl, hp, hS⟩
  have hSz := hS.size
  have HRR := Lib.hid (HRR.out.keep hS (by omega))
  have HS := Lib.hid (HS.out.trans hS)
  have HP := Lib.hid hp
  clear hp hS
  have hp := HP.out
  rw [H0.out, if_neg (by simp)] at hp
  have HP := Lib.hid hp
  clear hp
  rw [H0.out]
  go_wp2_with (go_at_call 37; refine stopAt ?_)
  unfold Hid
  refine (take_any g t l 0 wINSERT _ HP.out).mono ?_
  rintro e w2 ⟨rfl, hp, hS⟩
  have hSz := hS.size
  have HRR := Lib.hid (HRR.out.keep hS (by omega))
  have HS := Lib.hid (HS.out.trans hS)
  have HP := Lib.hid hp
  clear hp hS
  have hp := HP.out
  rw [H1.out, if_neg (by simp)] at hp
  have HP := Lib.hid hp
  clear hp
  rw [H1.out]
  go_wp2_with (go_at_call 37; refine stopAt ?_)
  unfold Hid
  refine (take_any g t l 0 wUPDATE _ HP.out).mono ?_
  rintro e w3 ⟨rfl, hp, hS⟩
  have hSz := hS.size
  have HRR := Lib.hid (HRR.out.keep hS (by omega))
  have HS := Lib.hid (HS.out.trans hS)
  have HP := Lib.hid hp
  clear hp hS
  have hp := HP.out
  rw [H2.out, if_neg (by simp)] at hp
  have HP := Lib.hid hp
  clear hp
  rw [H2.out]
  go_wp2_with (go_at_call 40; refine stopAt ?_)
  unfold Hid
  refine (must_at g t l 0 [wDELETE, wFROM] _ HP.out).mono ?_
  intro e wi hR_
  cases hx : mustT [wDELETE, wFROM] l with
  | error p =>
    rw [hx] at hR_
    obtain ⟨rfl, hE⟩ := hR_
    have hq : DoP g t 0 X (StG w.heap.size) w (.panicked [{ v := failV p.1 p.2, recovered := false }]) wi := by
      rw [HX.out, hx]
      exact ⟨rfl, HS.out.trans hE⟩
    exact ⟨rfl, hq⟩
  | ok q =>
    obtain ⟨⟨⟩, l1⟩ := q
    rw [hx] at hR_
    obtain ⟨v, rfl, rfl, hp, hS⟩ := hR_
    have hX := HX.out
    rw [hx, thenT_ok] at hX
    have HX := Lib.hid hX
    clear hX hx
    have hSz := hS.size
    have HRR := Lib.hid (HRR.out.keep hS (by omega))
    have HS := Lib.hid (HS.out.trans hS)
    have HP := Lib.hid hp
    clear hp hS
    go_wp2_with (go_at_call 84; refine stopAt ?_)
    unfold Hid
    refine (name_any g t l1 0 _ HP.out).mono ?_
    intro e wn hR_
    cases hx : nameT l1 with
    | error p =>
      rw [hx] at hR_
      obtain ⟨rfl, hE⟩ := hR_
      have hq : DoP g t 0 X (StG w.heap.size) w (.panicked [{ v := failV p.1 p.2, recovered := false }]) wn := by
        rw [HX.out, hx]
        exact ⟨rfl, HS.out.trans hE⟩
      exact ⟨rfl, hq⟩
    | ok q =>
      obtain ⟨tb, l2⟩ := q
      rw [hx] at hR_
      obtain ⟨v, rfl, rfl, hp, hS⟩ := hR_
      have hX := HX.out
      rw [hx, thenT_ok] at hX
      have HX := Lib.hid hX
      clear hX hx
      have hSz := hS.size
      have HRR := Lib.hid (HRR.out.keep hS (by omega))
      have HS := Lib.hid (HS.out.trans hS)
      have HP := Lib.hid hp
      clear hp hS
      have hr0 := Row.new wn 44 ([.int .i64 4, .string (str tb), .slice none 0 0, .slice none 0 0, .slice none 0 0, .bool false, .int .i64 0, .string ⟨#[]⟩, .int .i64 0, .int .i64 0, .string ⟨#[]⟩, .slice none 0 0, .string ⟨#[]⟩, .bool false, .int .i64 0] : List Value)
      have hSA := (Same.refl (fun _ => True) wn).alloc (.cells ([.int .i64 4, .string (str tb), .slice none 0 0, .slice none 0 0, .slice none 0 0, .bool false, .int .i64 0, .string ⟨#[]⟩, .int .i64 0, .int .i64 0, .string ⟨#[]⟩, .slice none 0 0, .string ⟨#[]⟩, .bool false, .int .i64 0] : List Value).toArray 44)
      have hzA : (wn.alloc (.cells ([.int .i64 4, .string (str tb), .slice none 0 0, .slice none 0 0, .slice none 0 0, .bool false, .int .i64 0, .string ⟨#[]⟩, .int .i64 0, .int .i64 0, .string ⟨#[]⟩, .slice none 0 0, .string ⟨#[]⟩, .bool false, .int .i64 0] : List Value).toArray 44)).heap.size = wn.heap.size + 1 := by simp
      have hp0 := HP.out.keep hSA
      have hSA := hSA.mono (S' := fun q => q ≠ g) fun _ _ _ => trivial
      have hrr0 := HRR.out.keep hSA (by omega)
      have hs0 := HS.out.trans hSA
      have hgw := HRR.out.lt
      have HR := Lib.hid hr0
      have HP := Lib.hid hp0
      have HRR := Lib.hid hrr0
      have HS := Lib.hid hs0
      clear hr0 hSA hp0 hrr0 hs0
      go_wp2_with (go_at_call 89; refine stopAt ?_)
      unfold Hid
      revert hzA HR HP HRR HS
      generalize wn.alloc _ = wA
      intro hzA HR HP HRR HS
      obtain ⟨gs, hgs⟩ : ∃ gs, gs = wn.heap.size := ⟨_, rfl⟩
      rw [← hgs] at HR ⊢
      have hg1 : w.heap.size < gs := by omega
      have hg2 : gs < wA.heap.size := by omega
      have hgG : g < gs := by omega
      have HLG : Hid (g < gs ∧ t < gs ∧ 1 < gs) := Lib.hid ⟨by omega, by omega, by omega⟩
      clear hgs hzA
      have HX : Hid (X = whereT (⟨4, tb, [], [], [], false, .zero, [], false, 0⟩ : Stm) l2) := Lib.hid HX.out
      have hX := HX.out
      rw [← then_id (whereT (⟨4, tb, [], [], [], false, .zero, [], false, 0⟩ : Stm) l2)] at hX
      have HX := Lib.hid hX
      clear hX
      refine (where_any g t gs (⟨.slice none 0 0, .slice none 0 0, .slice none 0 0, .slice none 0 0⟩ : SU) (⟨4, tb, [], [], [], false, .zero, [], false, 0⟩ : Stm) l2 wA HP.out (show Row wA gs 44 (stCs (⟨.slice none 0 0, .slice none 0 0, .slice none 0 0, .slice none 0 0⟩ : SU) (⟨4, tb, [], [], [], false, .zero, [], false, 0⟩ : Stm)) from HR.out) HLG.out rfl rfl rfl).mono ?_
      intro e ww hR_
      cases hx : whereT (⟨4, tb, [], [], [], false, .zero, [], false, 0⟩ : Stm) l2 with
      | error p =>
        rw [hx] at hR_
        obtain ⟨rfl, hE⟩ := hR_
        have hq : DoP g t 0 X (StG w.heap.size) w (.panicked [{ v := failV p.1 p.2, recovered := false }]) ww := by
          rw [HX.out, hx]
          exact ⟨rfl, HS.out.trans' hE fun q hq h => ⟨h, by omega⟩⟩
        exact ⟨rfl, hq⟩
      | ok q =>
        obtain ⟨sx, l9⟩ := q
        rw [hx] at hR_
        obtain ⟨v, rfl, ⟨rfl, uc, hr, hc⟩, hp, hS⟩ := hR_
        have hX := HX.out
        rw [hx, thenT_ok] at hX
        obtain ⟨ft, cd, rfl⟩ := where_ok2 hx
        have HX := Lib.hid hX
        have hSz := hS.size
        have HRR := Lib.hid (HRR.out.keep hS ⟨by omega, by omega⟩)
        have HS := Lib.hid (HS.out.trans' hS fun q hq h => ⟨h, by omega⟩)
        obtain ⟨Ac, cc, rfl, -, -⟩ := (show ExR ww (fun q => gs < q) uc cd from hc).toL.form
        have HC : Hid (ExR ww (fun q => gs < q) (.slice Ac cd.args.length cc) cd) := Lib.hid hc
        have HR : Hid (Row ww gs 44 [.int .i64 4, .string (str tb), .slice none 0 0, .slice none 0 0, .slice none 0 0, .bool ft, .int .i64 cd.kind, .string (str cd.s), .int .i64 cd.v.kind, .int .i64 cd.v.n, .string (str cd.v.s), .slice Ac cd.args.length cc, .string ⟨#[]⟩, .bool false, .int .i64 0]) := Lib.hid hr
        have HP := Lib.hid hp
        clear hX hx hr hc hp hS
        generalize cd.args.length = nc at *
        have rr := HRR.out
        have q0 := rr.cell 0
        have q1 := rr.cell 1
        have q2 := rr.cell 2
        have q3 := rr.cell 3
        have q4 := rr.cell 4
        have q5 := rr.cell 5
        have q6 := rr.cell 6
        have q7 := rr.cell 7
        have q8 := rr.cell 8
        have q9 := rr.cell 9
        have q10 := rr.cell 10
        have q11 := rr.cell 11
        have q12 := rr.cell 12
        have q13 := rr.cell 13
        have q14 := rr.cell 14
        simp only [List.getElem?_cons_zero, List.getElem?_cons_succ] at q0 q1 q2 q3 q4 q5 q6 q7 q8 q9 q10 q11 q12 q13 q14
        have x0 := rr.frozen 0
        have x1 := rr.frozen 1
        have x2 := rr.frozen 2
        have x3 := rr.frozen 3
        have x4 := rr.frozen 4
        have x5 := rr.frozen 5
        have x6 := rr.frozen 6
        have x7 := rr.frozen 7
        have x8 := rr.frozen 8
        have x9 := rr.frozen 9
        have x10 := rr.frozen 10
        have x11 := rr.frozen 11
        have x12 := rr.frozen 12
        have x13 := rr.frozen 13
        have x14 := rr.frozen 14
        have zr := rr.lt
        have hr := HR.out
        have y0 := hr.cell 0
        have y1 := hr.cell 1
        have y2 := hr.cell 2
        have y3 := hr.cell 3
        have y4 := hr.cell 4
        have y5 := hr.cell 5
        have y6 := hr.cell 6
        have y7 := hr.cell 7
        have y8 := hr.cell 8
        have y9 := hr.cell 9
        have y10 := hr.cell 10
        have y11 := hr.cell 11
        have y12 := hr.cell 12
        have y13 := hr.cell 13
        have y14 := hr.cell 14
        simp only [List.getElem?_cons_zero, List.getElem?_cons_succ] at y0 y1 y2 y3 y4 y5 y6 y7 y8 y9 y10 y11 y12 y13 y14
        clear hr
        obtain ⟨hD, hB, hC⟩ := fin_cs (cs := (stCs (⟨.slice none 0 0, .slice none 0 0, .slice none 0 0, .slice Ac nc cc⟩ : SU) (⟨4, tb, [], [], [], ft, cd, [], false, 0⟩ : Stm))) HP.out zg3 zg4 zg5 rr
        have hI1 : LsR itCs 7 itOk (setsW ww w.heap.size 0 (stCs (⟨.slice none 0 0, .slice none 0 0, .slice none 0 0, .slice Ac nc cc⟩ : SU) (⟨4, tb, [], [], [], ft, cd, [], false, 0⟩ : Stm))) (fun q => w.heap.size ≤ q) (SU.items (⟨.slice none 0 0, .slice none 0 0, .slice none 0 0, .slice Ac nc cc⟩ : SU)) (Stm.items (⟨4, tb, [], [], [], ft, cd, [], false, 0⟩ : Stm)) := LsR.nil _ _
        have hI2 : LsR rwCs 1 rwOk (setsW ww w.heap.size 0 (stCs (⟨.slice none 0 0, .slice none 0 0, .slice none 0 0, .slice Ac nc cc⟩ : SU) (⟨4, tb, [], [], [], ft, cd, [], false, 0⟩ : Stm))) (fun q => w.heap.size ≤ q) (SU.rows (⟨.slice none 0 0, .slice none 0 0, .slice none 0 0, .slice Ac nc cc⟩ : SU)) (Stm.rows (⟨4, tb, [], [], [], ft, cd, [], false, 0⟩ : Stm)) := LsR.nil _ _
        have hI3 : LsR asCs 7 asOk (setsW ww w.heap.size 0 (stCs (⟨.slice none 0 0, .slice none 0 0, .slice none 0 0, .slice Ac nc cc⟩ : SU) (⟨4, tb, [], [], [], ft, cd, [], false, 0⟩ : Stm))) (fun q => w.heap.size ≤ q) (SU.sets (⟨.slice none 0 0, .slice none 0 0, .slice none 0 0, .slice Ac nc cc⟩ : SU)) (Stm.sets (⟨4, tb, [], [], [], ft, cd, [], false, 0⟩ : Stm)) := LsR.nil _ _
        have hI4 : ExR (setsW ww w.heap.size 0 (stCs (⟨.slice none 0 0, .slice none 0 0, .slice none 0 0, .slice Ac nc cc⟩ : SU) (⟨4, tb, [], [], [], ft, cd, [], false, 0⟩ : Stm))) (fun q => w.heap.size ≤ q) (SU.cond (⟨.slice none 0 0, .slice none 0 0, .slice none 0 0, .slice Ac nc cc⟩ : SU)) (Stm.cond (⟨4, tb, [], [], [], ft, cd, [], false, 0⟩ : Stm)) := (HC.out.keep (hC.mono fun q _ (h : gs < q) => by omega)).mono fun q _ (h : gs < q) => by omega
        have HST := Lib.hid (show StR (setsW ww w.heap.size 0 (stCs (⟨.slice none 0 0, .slice none 0 0, .slice none 0 0, .slice Ac nc cc⟩ : SU) (⟨4, tb, [], [], [], ft, cd, [], false, 0⟩ : Stm))) (fun q => w.heap.size ≤ q) (⟨.slice none 0 0, .slice none 0 0, .slice none 0 0, .slice Ac nc cc⟩ : SU) (⟨4, tb, [], [], [], ft, cd, [], false, 0⟩ : Stm) from ⟨hI1, hI2, hI3, hI4⟩)
        have HD := Lib.hid hD
        have HB := Lib.hid hB
        have HS9 : Hid (Same (fun q => q ≠ g) w (setsW ww w.heap.size 0 (stCs (⟨.slice none 0 0, .slice none 0 0, .slice none 0 0, .slice Ac nc cc⟩ : SU) (⟨4, tb, [], [], [], ft, cd, [], false, 0⟩ : Stm)))) := Lib.hid (Same.sets' (Nat.le_refl _) _ 0 HS.out)
        clear rr hD hB hC hI1 hI2 hI3 hI4
        go_wp2
        refine bodyPost_ret (stmt_results (u := (⟨.slice none 0 0, .slice none 0 0, .slice none 0 0, .slice Ac nc cc⟩ : SU)) (s := (⟨4, tb, [], [], [], ft, cd, [], false, 0⟩ : Stm)) (show Row _ _ _ (stCs (⟨.slice none 0 0, .slice none 0 0, .slice none 0 0, .slice Ac nc cc⟩ : SU) (⟨4, tb, [], [], [], ft, cd, [], false, 0⟩ : Stm)) from HD.out) rfl) rfl ?_
        rw [HX.out]
        exact ⟨_, rfl, ⟨_, rfl, HST.out⟩, HB.out, HS9.out⟩
theorem stmt_any (g t : Nat) (l : List PT) (w : World) (h : PS w g t l 0) : Calls Tryz.prog 36 #[pV g] w (DoP g t 0 (stmtT l) (StG w.heap.size) w) := by
  unfold stmtT
  cases h0 : isT wSELECT l
  · rw [if_neg (by simp)]
    cases h1 : isT wINSERT l
    · rw [if_neg (by simp)]
      cases h2 : isT wUPDATE l
      · rw [if_neg (by simp)]
        exact stmt_del g t l w h h0 h1 h2
      · rw [if_pos rfl]
        exact stmt_upd g t l w h h0 h1 h2
    · rw [if_pos rfl]
      exact stmt_ins g t l w h h0 h1
  · rw [if_pos rfl]
    exact stmt_sel g t l w h h0
section
variable {α β : Type} {cs : β × α → List Value} {n : Nat} {e : TypeId} {ok : World → (Nat → Prop) → β → α → Prop} {w w' : World} {B G : Nat} {v : Value} {l : List α}
/-- A thing whose own part spares a block. -/
def okG (ok : World → (Nat → Prop) → β → α → Prop) (G : Nat) (w : World) (S : Nat → Prop) (u : β) (x : α) : Prop := ok w (fun q => S q ∧ q ≠ G) u x
theorem okG_K (hk : OkK ok) (G : Nat) : OkK (okG ok G) := ⟨fun h hs => hk.keep h (hs.mono fun _ _ h => h.1), fun h hS => hk.mono h fun k hk h => ⟨hS k hk h.1, h.2⟩⟩
theorem neRowT {f : α → List Value} {e' : TypeId} {xs : List Value} (h : OwnR f n e w B v l) (hr : Row w G e' xs) (hne : e ≠ e') : some G ≠ v.ownBlock := fun hk => by
  rcases ownsRow_row h with ⟨rfl, _, _⟩ | ⟨g', cap, cur, rfl, _, hr', _⟩
  · cases hk
  · injection (show some G = some g' from hk) with hk
    subst hk
    exact hr'.ne hr hne rfl
/-- Such a slice, and its block is another one than G. -/
def OwnG (cs : β × α → List Value) (n : Nat) (e : TypeId) (ok : World → (Nat → Prop) → β → α → Prop) (w : World) (B G : Nat) (v : Value) (l : List α) : Prop := OwnL cs n e (okG ok G) w B v l ∧ some G ≠ v.ownBlock
theorem OwnG.keep (hk : OkK ok) {S : Nat → Prop} (h : OwnG cs n e ok w B G v l) (hs : Same S w w') (hS : ∀ k, B ≤ k → k ≠ G → k < w.heap.size → S k) : OwnG cs n e ok w' B G v l := by
  obtain ⟨⟨us, h1, h2, h3⟩, h4⟩ := h
  refine ⟨⟨us, h1, own_keep h2 hs fun k hk => ?_, fun i u x a b => hk.keep (h3 i u x a b) (hs.mono fun k hk h => hS k h.1.1 h.2 hk)⟩, h4⟩
  have := OwnR.lt_ h2 hk
  exact hS k this.1 (fun e => h4 (e ▸ hk.symm)) this.2
theorem OwnG.keepAll (hk : OkK ok) (h : OwnG cs n e ok w B G v l) (hs : Same (fun _ => True) w w') : OwnG cs n e ok w' B G v l := h.keep hk hs fun _ _ _ _ => trivial
theorem OwnG.ge (h : OwnG cs n e ok w B G v l) {k : Nat} (hk : some k = v.ownBlock) : B ≤ k ∧ k < w.heap.size ∧ k ≠ G := ⟨(h.1.ge hk).1, (h.1.ge hk).2, fun e => h.2 (e ▸ hk)⟩
theorem OwnG.form (h : OwnG cs n e ok w B G v l) : ∃ A c, v = .slice A l.length c ∧ l.length ≤ c ∧ c ≤ maxLen := h.1.form
theorem OwnG.ls (hk : OkK ok) (hf : ∀ x, (cs x).length = n) (h : OwnG cs n e ok w B G v l) : LsR cs n ok w (fun q => B ≤ q) v l := by
  obtain ⟨us, h1, h2, h3⟩ := h.1.ls (okG_K hk G) hf
  exact ⟨us, h1, h2, fun i u x a b => hk.mono (h3 i u x a b) fun k _ h => h.1⟩
abbrev SB (B G : Nat) (v : Value) : Nat → Prop := fun q => (B ≤ q ∧ some q ≠ v.ownBlock) ∧ q ≠ G
theorem sb_ta {g : Nat} (hg : g < B) (h : Same (TA g G v) w w') : Same (SB B G v) w w' := h.mono fun q _ h => ⟨by have := h.1.1; omega, h.2, h.1.2⟩
def RuG (hk : OkK ok) (g B G : Nat) (v : Value) (hg : g < B) (val : β → Value) (y : α) (xok : Prop) : SPT (TA g G v) :=
  ⟨fun vv w => ∃ u, vv = val u ∧ ok w (SB B G v) u y ∧ xok, fun _ _ _ ⟨u, h1, h2, h3⟩ hs => ⟨u, h1, hk.keep h2 (sb_ta hg hs), h3⟩⟩
def BsG (cs : β × α → List Value) (e : TypeId) (hk : OkK ok) (g B G : Nat) (v : Value) (hg : g < B) (y : α) (xok : Prop) : SPT (TA g G v) :=
  ⟨fun vv w => ∃ b u, vv = .slice (some ⟨b, 0, none⟩) 1 1 ∧ Row w b e (cs (u, y)) ∧ SB B G v b ∧ ok w (SB B G v) u y ∧ xok, fun _ _ _ ⟨b, u, h1, h2, h3, h4, h5⟩ hs => ⟨b, u, h1, h2.keep (sb_ta hg hs) h3, h3, hk.keep h4 (sb_ta hg hs), h5⟩⟩
def AppG (cs : β × α → List Value) (n : Nat) (e : TypeId) (ok : World → (Nat → Prop) → β → α → Prop) (g t o B G : Nat) (sty : TypeId) (v : Value) (l : List α) (y : α) (CS : Value → List Value) (lN l0 : List PT) (fc fa fs : Bool) (U : Value) (W : World) : Prop :=
  PS W g t (cond fc lN l0) o ∧ (fs = false → Row W G sty (CS v)) ∧ (fa = false → OwnG cs n e ok W B G v l) ∧ (fa = true → OwnG cs n e ok W B G U (l ++ [y])) ∧ (fs = true → Row W G sty (CS U))
variable {g t o : Nat} {sty : TypeId} {y : α} {CS : Value → List Value} {lN l0 : List PT} {fc fa fs : Bool} {U : Value} {W W' : World}
theorem AppG.keep (hk : OkK ok) (h : AppG cs n e ok g t o B G sty v l y CS lN l0 fc fa fs U W) (hs : Same (fun _ => True) W W') : AppG cs n e ok g t o B G sty v l y CS lN l0 fc fa fs U W' :=
  ⟨h.1.keep hs, fun a => (h.2.1 a).keep hs trivial, fun a => (h.2.2.1 a).keepAll hk hs, fun a => (h.2.2.2.1 a).keepAll hk hs, fun a => (h.2.2.2.2 a).keep hs trivial⟩
theorem AppG.call (hk : OkK ok) (hg : g < B) (hb : B ≤ G) (h : AppG cs n e ok g t o B G sty v l y CS lN l0 false false false U W) (hp : PS W' g t lN o) (hs : Same (fun q => q ≠ g) W W') {U' : Value} : AppG cs n e ok g t o B G sty v l y CS lN l0 true false false U' W' :=
  ⟨hp, fun a => (h.2.1 a).keep hs (by omega), fun a => (h.2.2.1 a).keep hk hs fun k h _ _ => by omega, fun a => (by cases a), fun a => (by cases a)⟩
theorem AppG.app (hl : g < B ∧ t < B ∧ 1 < B) (hne : e ≠ sty) (h : AppG cs n e ok g t o B G sty v l y CS lN l0 true false false U W) {v' : Value} (ho : OwnL cs n e (okG ok G) W' B v' (l ++ [y])) (hs : Same (fun k => some k ≠ v.ownBlock) W W') : AppG cs n e ok g t o B G sty v l y CS lN l0 true true false v' W' := by
  have hlt : ∀ k, k < B → some k ≠ v.ownBlock := fun k h1 h2 => by have := (h.2.2.1 rfl).ge h2; omega
  have hr := (h.2.1 rfl).keep hs (h.2.2.1 rfl).2
  refine ⟨h.1.keepB hs (hlt g (by omega)) (hlt t (by omega)) (hlt _ (by omega)), fun _ => hr, fun a => (by cases a), fun _ => ⟨ho, ?_⟩, fun a => (by cases a)⟩
  obtain ⟨us, k1, k2, k3⟩ := ho
  exact neRowT k2 hr hne
theorem AppG.store (hk : OkK ok) (hl : g < B ∧ t < B ∧ 1 < B) (hb : B ≤ G) (h : AppG cs n e ok g t o B G sty v l y CS lN l0 true true false U W) (off : Nat) (hcs : (CS v).set off U = CS U) : AppG cs n e ok g t o B G sty v l y CS lN l0 true true true U (W.setCell ⟨G, off, none⟩ U) ∧ Same (TA g G v) W (W.setCell ⟨G, off, none⟩ U) := by
  have hs : Same (fun q => q ≠ G) W (W.setCell ⟨G, off, none⟩ U) := (Same.refl _ _).setCell (fun _ h => h rfl) _
  exact ⟨⟨h.1.keepB hs (by omega) (by omega) (by omega), fun a => (by cases a), fun a => (by cases a), fun _ => (h.2.2.2.1 rfl).keep hk hs fun k _ h _ => h, fun _ => hcs ▸ (h.2.1 rfl).set_ off U⟩, hs.mono fun _ _ h => h.2.1⟩
end
theorem stCsP_len (p : SU × Stm) : (stCsP p).length = 15 := rfl
theorem stOne {w : World} {S : Nat → Prop} {u : SU} {y : Stm} (h : StR w S u y) : ∀ c ∈ stCsP (u, y), c.oneCell' = true := by
  obtain ⟨h1, h2, h3, h4⟩ := h
  obtain ⟨ui, ur, us, uc⟩ := u
  dsimp only at h1 h2 h3 h4
  obtain ⟨A1, c1, rfl, -⟩ := h1.form
  obtain ⟨A2, c2, rfl, -⟩ := h2.form
  obtain ⟨A3, c3, rfl, -⟩ := h3.form
  obtain ⟨A4, c4, rfl, -⟩ := h4.toL.form
  intro c hc
  simp only [stCsP, stCs, List.mem_cons, List.not_mem_nil, or_false] at hc
  rcases hc with rfl | rfl | rfl | rfl | rfl | rfl | rfl | rfl | rfl | rfl | rfl | rfl | rfl | rfl | rfl <;> rfl
def ltCs (v : Value) (l : LotM) : List Value := [.int .i64 l.mode, .int .i64 l.n, v]
abbrev ltV (v : Value) (l : LotM) : Value := .agg #[.int .i64 l.mode, .int .i64 l.n, v]
/-- A lot's statements in memory. -/
def LtR (w : World) (S : Nat → Prop) (v : Value) (l : LotM) : Prop := LsR stCsP 15 StR w S v l.stmts
def LtG (B : Nat) (l : LotM) (w : World) (v : Value) : Prop := ∃ u, v = ltV u l ∧ LtR w (fun q => B ≤ q) u l
def zlt : List Value := [.int .i64 0, .int .i64 0, .slice none 0 0]
section
variable {α β : Type} {cs : β × α → List Value} {n : Nat} {ok : World → (Nat → Prop) → β → α → Prop} {w : World} {S : Nat → Prop} {l : List α}
theorem LsR.at_ {A : Option Addr} {m c : Nat} (h : LsR cs n ok w S (.slice A m c) l) (hf : ∀ x, (cs x).length = n) {i : Nat} (hi : i < l.length) : ∃ ad u, A = some ad ∧ ok w S u l[i] ∧ ∀ j, j < n → w.cell? ((ad.add (i * n)).add j) = (cs (u, l[i]))[j]? := by
  obtain ⟨us, h1, h2, h3⟩ := h
  have hz : i < (us.zip l).length := by simp [h1, hi]
  obtain ⟨ad, c', e1, -, -, -, hc⟩ := RowR.at_ h2 hf hz
  injection e1 with e1 _ _
  refine ⟨ad, us[i]'(by omega), e1, h3 i _ _ (List.getElem?_eq_getElem (by omega)) (List.getElem?_eq_getElem hi), fun j hj => ?_⟩
  rw [hc j hj, List.getElem_zip]
end
theorem sameBy_len {α : Type} {f : α → α → Bool} : ∀ {l l' : List α}, l.length ≠ l'.length → sameBy f l l' = false
  | [], [], h => absurd rfl h
  | [], _ :: _, _ => rfl
  | _ :: _, [], _ => rfl
  | a :: l, b :: l', h => by rw [sameBy, sameBy_len (l := l) (l' := l') (by simpa using h), Bool.and_false]
theorem sameBy_cons {α : Type} (f : α → α → Bool) (a b : α) (l l' : List α) : sameBy f (a :: l) (b :: l') = (f a b && sameBy f l l') := rfl
theorem sameEs_by : ∀ l l' : List Ex, sameEs l l' = sameBy sameE l l'
  | [], [] => by rw [sameEs]; rfl
  | [], _ :: _ => by rw [sameEs]; rfl; simp; simp
  | _ :: _, [] => by rw [sameEs]; rfl; simp; simp
  | a :: l, b :: l' => by rw [sameEs, sameEs_by l l']; rfl
abbrev asV (u : Value) (x : Asn) : Value := .agg #[.string (str x.name), .int .i64 x.e.kind, .string (str x.e.s), .int .i64 x.e.v.kind, .int .i64 x.e.v.n, .string (str x.e.v.s), u]
set_option maxRecDepth 100000 in
set_option maxHeartbeats 4000000 in
theorem eqf_Ex (f : Ex → Ex → Bool) (l l' : List Ex) (v v' : Value) (w : World) (h : LsR exCsP 6 ExR w (fun _ => True) v l) (h' : LsR exCsP 6 ExR w (fun _ => True) v' l')
    (hcall : ∀ (i : Nat) (hi : i < l.length) (hi' : i < l'.length) (u u' : Value) (W : World), ExR W (fun _ => True) u l[i] → ExR W (fun _ => True) u' l'[i] → Calls Tryz.prog 68 #[exV u l[i], exV u' l'[i]] W (BoolP (f l[i] l'[i]) W)) :
    Calls Tryz.prog 70 #[v, v', .func (.func 68) #[] #[]] w (BoolP (sameBy f l l') w) := by
  obtain ⟨A, c, rfl, hc1, hc2⟩ := h.form
  obtain ⟨A', c', rfl, hc1', hc2'⟩ := h'.form
  unfold maxLen at hc2 hc2'
  obtain ⟨X, hX⟩ : ∃ X, X = sameBy f l l' := ⟨_, rfl⟩
  rw [← hX]
  have HX := Lib.hid hX
  have HL := Lib.hid h
  have HL' := Lib.hid h'
  have HC := Lib.hid hcall
  clear hX h h' hcall
  by_cases hlen : l.length = l'.length
  · have en : ((l.length : Int) != (l'.length : Int)) = false := by rw [hlen]; simp
    have HLE := Lib.hid hlen
    clear hlen
    go_enter Tryz.func70, Tryz.ntmps70
    go_wp2
    go_loopw [17] (fun i wr => ∃ q : Nat, i = .int .i64 (q : Int) ∧ q ≤ l.length ∧ X = sameBy f (l.drop q) (l'.drop q) ∧ Same (fun _ => True) w wr) (fun i _ => l.length - (intOf i).toNat)
    case atStart => exact ⟨0, rfl, Nat.zero_le _, HX.out, Same.refl _ _⟩
    case round =>
      obtain ⟨q, rfl, hq, hx, hS⟩ := hrel
      have x1 : (0 : Int) ≤ (q : Int) := by omega
      have HS := Lib.hid hS
      by_cases hql : q < l.length
      · have hql' : q < l'.length := by rw [← HLE.out]; exact hql
        have x2 : (q : Int) < (l.length : Int) := by omega
        have x3 : (q : Int) < (l'.length : Int) := by omega
        obtain ⟨ad, u, rfl, hok, hcl⟩ := LsR.at_ (HL.out.keepAll exK hS) exCsP_len hql
        obtain ⟨ad', u', rfl, hok', hcl'⟩ := LsR.at_ (HL'.out.keepAll exK hS) exCsP_len hql'
        obtain ⟨A_u, c_u, rfl, -, -⟩ := (show ExR _ _ u l[q] from hok).toL.form
        obtain ⟨A_u', c_u', rfl, -, -⟩ := (show ExR _ _ u' l'[q] from hok').toL.form
        have d0 := hcl 0 (by omega)
        rw [add_zero] at d0
        have d1 := hcl 1 (by omega)
        rw [addr_add _ _ (by omega)] at d1
        have d2 := hcl 2 (by omega)
        rw [addr_add _ _ (by omega)] at d2
        have d3 := hcl 3 (by omega)
        rw [addr_add _ _ (by omega)] at d3
        have d4 := hcl 4 (by omega)
        rw [addr_add _ _ (by omega)] at d4
        have d5 := hcl 5 (by omega)
        rw [addr_add _ _ (by omega)] at d5
        simp only [exCsP, exCs, List.getElem?_cons_zero, List.getElem?_cons_succ] at d0 d1 d2 d3 d4 d5
        have g0 := hcl' 0 (by omega)
        rw [add_zero] at g0
        have g1 := hcl' 1 (by omega)
        rw [addr_add _ _ (by omega)] at g1
        have g2 := hcl' 2 (by omega)
        rw [addr_add _ _ (by omega)] at g2
        have g3 := hcl' 3 (by omega)
        rw [addr_add _ _ (by omega)] at g3
        have g4 := hcl' 4 (by omega)
        rw [addr_add _ _ (by omega)] at g4
        have g5 := hcl' 5 (by omega)
        rw [addr_add _ _ (by omega)] at g5
        simp only [exCsP, exCs, List.getElem?_cons_zero, List.getElem?_cons_succ] at g0 g1 g2 g3 g4 g5
        have hA1 := (Same.refl (fun _ => True) wr).alloc (.cells #[.int .i64 l[q].kind, .string (str l[q].s), .int .i64 l[q].v.kind, .int .i64 l[q].v.n, .string (str l[q].v.s), .slice A_u l[q].args.length c_u] 34)
        have k0 := hA1.cell (p := ad'.add (q * 6)) trivial g0
        have k1 := hA1.cell (p := ⟨(ad'.add (q * 6)).block, (ad'.add (q * 6)).off + 1, none⟩) trivial g1
        have k2 := hA1.cell (p := ⟨(ad'.add (q * 6)).block, (ad'.add (q * 6)).off + 2, none⟩) trivial g2
        have k3 := hA1.cell (p := ⟨(ad'.add (q * 6)).block, (ad'.add (q * 6)).off + 3, none⟩) trivial g3
        have k4 := hA1.cell (p := ⟨(ad'.add (q * 6)).block, (ad'.add (q * 6)).off + 4, none⟩) trivial g4
        have k5 := hA1.cell (p := ⟨(ad'.add (q * 6)).block, (ad'.add (q * 6)).off + 5, none⟩) trivial g5
        clear hA1
        have HOK := Lib.hid hok
        have HOK' := Lib.hid hok'
        have hd : l.drop q = l[q] :: l.drop (q + 1) := List.drop_eq_getElem_cons hql
        have hd' : l'.drop q = l'[q] :: l'.drop (q + 1) := List.drop_eq_getElem_cons hql'
        rw [hd, hd', sameBy_cons] at hx
        have HXq := Lib.hid hx
        have hS0 : Same (fun _ => True) wr wr := Same.refl _ _
        clear hx hd hd' hok hok' hS hcl hcl'
        go_wp2_with (go_at_call 68; refine stopAt ?_)
        unfold Hid
        refine (HC.out q hql hql' _ _ _ (exK.keep HOK.out (((Same.refl (fun _ => True) wr).alloc _).alloc _)) (exK.keep HOK'.out (((Same.refl (fun _ => True) wr).alloc _).alloc _))).mono ?_
        rintro e w5 ⟨rfl, hS⟩
        have HS5 := Lib.hid ((HS.out.trans (((Same.refl (fun _ => True) wr).alloc _).alloc _)).trans hS)
        clear hS hS0
        cases hb : f l[q] l'[q]
        · have HB : Hid (false = X) := Lib.hid (by rw [HXq.out, hb]; rfl)
          clear hb
          go_wp2
          go_ret
          exact ⟨ret_bool HB.out, HS5.out⟩
        · have HXn : Hid (X = sameBy f (l.drop (q + 1)) (l'.drop (q + 1))) := Lib.hid (by rw [HXq.out, hb]; rfl)
          clear hb
          go_wp2
          go_roundw
          case rel => exact ⟨q + 1, by go_num, by omega, HXn.out, HS5.out⟩
          case measure => simp [intOf]; omega
      · obtain rfl : q = l.length := by omega
        rw [List.drop_length, HLE.out, List.drop_length] at hx
        have HB : Hid (true = X) := Lib.hid (by rw [hx]; rfl)
        clear hx hS
        go_wp2
        go_ret
        exact ⟨ret_bool HB.out, HS.out⟩
  · have en : ((l.length : Int) != (l'.length : Int)) = true := by simpa using fun h : (l.length : Int) = l'.length => hlen (by omega)
    have HB : Hid (false = X) := Lib.hid (by rw [HX.out, sameBy_len hlen])
    clear hlen
    go_enter Tryz.func70, Tryz.ntmps70
    go_wp2
    go_ret
    exact ⟨ret_bool HB.out, Same.refl _ _⟩
theorem str_eq_t {s x : List UInt8} (h : s = x) : (s == x) = true := by subst h; simp
theorem str_eq_f {s x : List UInt8} (h : ¬ s = x) : (s == x) = false := by simpa using h
theorem int_eq_t {s x : Int} (h : s = x) : (s == x) = true := by subst h; simp
theorem int_eq_f {s x : Int} (h : ¬ s = x) : (s == x) = false := by simpa using h
set_option maxRecDepth 100000 in
set_option maxHeartbeats 4000000 in
theorem samex_any : ∀ (e e' : Ex) (u u' : Value) (w : World), ExR w (fun _ => True) u e → ExR w (fun _ => True) u' e' → Calls Tryz.prog 68 #[exV u e, exV u' e'] w (BoolP (sameE e e') w) := by
  apply Ex.ind
  intro k s v l ih e' u u' w hr hr'
  obtain ⟨k', s', v', l'⟩ := e'
  obtain ⟨A, c, rfl, hc1, hc2⟩ := hr.toL.form
  obtain ⟨A', c', rfl, hc1', hc2'⟩ := hr'.toL.form
  have hl : ExL w (fun _ => True) (.slice A l.length c) l := hr.toL
  have hl' : ExL w (fun _ => True) (.slice A' l'.length c') l' := hr'.toL
  show Calls Tryz.prog 68 #[.agg #[.int .i64 k, .string (str s), .int .i64 v.kind, .int .i64 v.n, .string (str v.s), .slice A l.length c], .agg #[.int .i64 k', .string (str s'), .int .i64 v'.kind, .int .i64 v'.n, .string (str v'.s), .slice A' l'.length c']] w (BoolP (sameE (.mk k s v l) (.mk k' s' v' l')) w)
  obtain ⟨X, hX⟩ : ∃ X, X = sameE (.mk k s v l) (.mk k' s' v' l') := ⟨_, rfl⟩
  rw [← hX]
  rw [sameE, sameEs_by] at hX
  have hA := (Same.refl (fun _ => True) w).alloc (.cells #[.int .i64 k, .string (str s), .int .i64 v.kind, .int .i64 v.n, .string (str v.s), .slice A l.length c] 34)
  have hA' := (Same.refl (fun _ => True) (w.alloc (.cells #[.int .i64 k, .string (str s), .int .i64 v.kind, .int .i64 v.n, .string (str v.s), .slice A l.length c] 34))).alloc (.cells #[.int .i64 k', .string (str s'), .int .i64 v'.kind, .int .i64 v'.n, .string (str v'.s), .slice A' l'.length c'] 34)
  have hrow := (Row.new w 34 [.int .i64 k, .string (str s), .int .i64 v.kind, .int .i64 v.n, .string (str v.s), .slice A l.length c]).keep hA' trivial
  have hrow' := Row.new (w.alloc (.cells #[.int .i64 k, .string (str s), .int .i64 v.kind, .int .i64 v.n, .string (str v.s), .slice A l.length c] 34)) 34 [.int .i64 k', .string (str s'), .int .i64 v'.kind, .int .i64 v'.n, .string (str v'.s), .slice A' l'.length c']
  have hz : (w.alloc (.cells #[.int .i64 k, .string (str s), .int .i64 v.kind, .int .i64 v.n, .string (str v.s), .slice A l.length c] 34)).heap.size = w.heap.size + 1 := by simp
  rw [hz] at hrow'
  have hs := hA.trans hA'
  have hl1 := hl.keepAll hs
  have hl1' := hl'.keepAll hs
  have HX := Lib.hid hX
  clear hX hr hr' hl hl' hz hA hA'
  go_enter Tryz.func68, Tryz.ntmps68
  go_upto_region 1 with (fail)
  revert hrow hrow' hs hl1 hl1'
  generalize (w.alloc _).alloc _ = w1
  intro hrow hrow' hs hl1 hl1'
  have HL := Lib.hid hl1
  have HL' := Lib.hid hl1'
  have HS := Lib.hid hs
  have c0 := hrow.cell 0
  have c1 := hrow.cell 1
  have c2 := hrow.cell 2
  have c3 := hrow.cell 3
  have c4 := hrow.cell 4
  have c5 := hrow.cell 5
  have g0 := hrow'.cell 0
  have g1 := hrow'.cell 1
  have g2 := hrow'.cell 2
  have g3 := hrow'.cell 3
  have g4 := hrow'.cell 4
  have g5 := hrow'.cell 5
  simp only [List.getElem?_cons_zero, List.getElem?_cons_succ] at c0 c1 c2 c3 c4 c5 g0 g1 g2 g3 g4 g5
  clear hs hl1 hl1' hrow hrow'
  by_cases h0 : k = k'
  · have e0 := int_eq_t h0
    by_cases h1 : s = s'
    · have e1 := str_eq_t h1
      by_cases h2 : v = v'
      · have hez : ∀ w, (binOp .eql 31 (.agg #[.int .i64 v.kind, .int .i64 v.n, .string (str v.s)]) (.agg #[.int .i64 v'.kind, .int .i64 v'.n, .string (str v'.s)])).run Tryz.prog w = .ok (.bool true) w := fun w => by
          have := eqV v v' w
          rw [decide_eq_true h2] at this
          exact this
        have HB : Hid (sameBy sameE l l' = X) := Lib.hid (by rw [HX.out, decide_eq_true h0, decide_eq_true h1, decide_eq_true h2]; simp)
        clear h0 h2
        have h1 : s' = s := h1.symm
        subst h1
        go_wp2_with (go_at_call 70; refine stopAt ?_)
        unfold Hid
        refine (eqf_Ex sameE l l' _ _ _ (ls_exL.2 HL.out) (ls_exL.2 HL'.out) fun i hi hi' u u' W hu hu' => ih l[i] (List.getElem_mem hi) l'[i] u u' W hu hu').mono ?_
        rintro e w2 ⟨rfl, hS⟩
        have HS := Lib.hid (HS.out.trans hS)
        clear hS
        go_wp2
        go_ret
        exact ⟨ret_bool HB.out, HS.out⟩
      · have hez : ∀ w, (binOp .eql 31 (.agg #[.int .i64 v.kind, .int .i64 v.n, .string (str v.s)]) (.agg #[.int .i64 v'.kind, .int .i64 v'.n, .string (str v'.s)])).run Tryz.prog w = .ok (.bool false) w := fun w => by
          have := eqV v v' w
          rw [decide_eq_false h2] at this
          exact this
        have HB : Hid (false = X) := Lib.hid (by rw [HX.out, decide_eq_false h2]; simp)
        clear h0 h2
        have h1 : s' = s := h1.symm
        subst h1
        go_wp2
        go_ret
        exact ⟨ret_bool HB.out, HS.out⟩
    · have e1 := str_eq_f h1
      have HB : Hid (false = X) := Lib.hid (by rw [HX.out, decide_eq_false h1]; simp)
      clear h0
      go_wp2
      go_ret
      exact ⟨ret_bool HB.out, HS.out⟩
  · have e0 := int_eq_f h0
    have HB : Hid (false = X) := Lib.hid (by rw [HX.out, decide_eq_false h0]; simp)
    clear h0
    go_wp2
    go_ret
    exact ⟨ret_bool HB.out, HS.out⟩
set_option maxHeartbeats 1000000 in
theorem blank_any (e : Ex) (u : Value) (w : World) (h : ExR w (fun _ => True) u e) : Calls Tryz.prog 59 #[exV u e] w (BoolP (blankE e) w) := by
  obtain ⟨A, c, rfl, hc1, hc2⟩ := h.toL.form
  have hz : ExR (w.alloc (.cells #[.int .i64 e.kind, .string (str e.s), .int .i64 e.v.kind, .int .i64 e.v.n, .string (str e.v.s), .slice A e.args.length c] 34)) (fun _ => True) (.slice none 0 0) .zero := ExR.lf _ _ _ _ _
  have hA := (Same.refl (fun _ => True) w).alloc (.cells #[.int .i64 e.kind, .string (str e.s), .int .i64 e.v.kind, .int .i64 e.v.n, .string (str e.v.s), .slice A e.args.length c] 34)
  have H := Lib.hid (samex_any e .zero _ _ _ (h.keepAll hA) hz)
  have HA := Lib.hid hA
  clear h hz hA
  go_enter Tryz.func59, Tryz.ntmps59
  go_wp2_with (go_at_call 68; refine stopAt ?_)
  unfold Hid
  refine (show Calls _ _ _ _ _ from H.out).mono ?_
  rintro e' w2 ⟨rfl, hS⟩
  have HS := Lib.hid (HA.out.trans hS)
  clear hS
  go_wp2
  go_ret
  exact ⟨rfl, HS.out⟩
def may16 (e : Ex) : Bool := mayE e 16
def mayAsn (x : Asn) : Bool := wordF x.name && mayE x.e 16
set_option maxHeartbeats 1000000 in
theorem bad1_any (e : Ex) (u : Value) (w : World) (h : ExR w (fun _ => True) u e) (hm : Mx w) : Calls Tryz.prog 103 #[exV u e] w (BoolP (!(may16 e)) w) := by
  obtain ⟨A, c, rfl, hc1, hc2⟩ := h.toL.form
  have hA := (Same.refl (fun _ => True) w).alloc (.cells #[.int .i64 e.kind, .string (str e.s), .int .i64 e.v.kind, .int .i64 e.v.n, .string (str e.v.s), .slice A e.args.length c] 34)
  have H := Lib.hid (mayx_any e 16 _ _ (by omega) (h.keepAll hA) (hm.keep hA))
  have HA := Lib.hid hA
  clear h hm hA
  go_enter Tryz.func103, Tryz.ntmps103
  go_wp2_with (go_at_call 58; refine stopAt ?_)
  unfold Hid
  refine (show Calls _ _ _ _ _ from H.out).mono ?_
  rintro e' w2 ⟨rfl, hS⟩
  have HS := Lib.hid (HA.out.trans hS)
  clear hS
  go_wp2
  go_ret
  exact ⟨rfl, HS.out⟩
set_option maxRecDepth 100000 in
set_option maxHeartbeats 2000000 in
theorem bad2_any (x : Asn) (u : Value) (w : World) (h : ExR w (fun _ => True) u x.e) (hm : Mx w) : Calls Tryz.prog 104 #[asV u x] w (BoolP (!(mayAsn x)) w) := by
  obtain ⟨A, c, rfl, hc1, hc2⟩ := h.toL.form
  obtain ⟨X, hX⟩ : ∃ X, X = mayAsn x := ⟨_, rfl⟩
  rw [← hX]
  have HX := Lib.hid hX
  have hA := (Same.refl (fun _ => True) w).alloc (.cells #[.string (str x.name), .int .i64 x.e.kind, .string (str x.e.s), .int .i64 x.e.v.kind, .int .i64 x.e.v.n, .string (str x.e.v.s), .slice A x.e.args.length c] 65)
  have hrow := Row.new w 65 [.string (str x.name), .int .i64 x.e.kind, .string (str x.e.s), .int .i64 x.e.v.kind, .int .i64 x.e.v.n, .string (str x.e.v.s), .slice A x.e.args.length c]
  have he := h.keepAll hA
  have hm1 := hm.keep hA
  clear hX h hm
  go_enter Tryz.func104, Tryz.ntmps104
  go_upto_region 1 with (fail)
  revert hA hrow he hm1
  generalize w.alloc _ = w1
  intro hA hrow he hm1
  have c0 := hrow.cell 0
  have c1 := hrow.cell 1
  have c2 := hrow.cell 2
  have c3 := hrow.cell 3
  have c4 := hrow.cell 4
  have c5 := hrow.cell 5
  have c6 := hrow.cell 6
  simp only [List.getElem?_cons_zero, List.getElem?_cons_succ] at c0 c1 c2 c3 c4 c5 c6
  have HE := Lib.hid he
  have HM := Lib.hid hm1
  have HS := Lib.hid hA
  have HROW := Lib.hid hrow
  clear hA hrow he hm1
  go_wp2_with (go_at_call 57; refine stopAt ?_)
  unfold Hid
  refine (lexword_all (str x.name) w1 HM.out rfl).mono ?_
  rintro e w2 ⟨rfl, hS⟩
  rw [show bl (str x.name) = x.name from rfl]
  have hrow := HROW.out.keep hS trivial
  have k0 := hrow.cell 0
  have k1 := hrow.cell 1
  have k2 := hrow.cell 2
  have k3 := hrow.cell 3
  have k4 := hrow.cell 4
  have k5 := hrow.cell 5
  have k6 := hrow.cell 6
  simp only [List.getElem?_cons_zero, List.getElem?_cons_succ] at k0 k1 k2 k3 k4 k5 k6
  have HE := Lib.hid (HE.out.keepAll hS)
  have HM := Lib.hid (HM.out.keep hS)
  have HS := Lib.hid (HS.out.trans hS)
  clear hS hrow
  cases hw : wordF x.name
  · have HB : Hid (true = !X) := Lib.hid (by rw [HX.out]; unfold mayAsn; rw [hw]; rfl)
    clear hw
    go_wp2
    go_ret
    exact ⟨ret_bool HB.out, HS.out⟩
  · have HB : Hid ((!mayE x.e 16) = !X) := Lib.hid (by rw [HX.out]; unfold mayAsn; rw [hw]; rfl)
    clear hw
    go_wp2_with (go_at_call 58; refine stopAt ?_)
    unfold Hid
    refine (mayx_any x.e 16 _ _ (by omega) HE.out HM.out).mono ?_
    rintro e w3 ⟨rfl, hS⟩
    have HS := Lib.hid (HS.out.trans hS)
    clear hS
    go_wp2
    go_ret
    exact ⟨ret_bool HB.out, HS.out⟩
set_option maxRecDepth 100000 in
set_option maxHeartbeats 2000000 in
theorem contains_Ex (l : List Ex) (v : Value) (w : World) (h : LsR exCsP 6 ExR w (fun _ => True) v l) (hm : Mx w)
    (hcall : ∀ (i : Nat) (hi : i < l.length) (u : Value) (W : World), ExR W (fun _ => True) u l[i] → Mx W → Calls Tryz.prog 103 #[exV u l[i]] W (BoolP (!(may16 l[i])) W)) :
    Calls Tryz.prog 102 #[v, .func (.func 103) #[] #[]] w (BoolP (!(l.all may16)) w) := by
  obtain ⟨A, c, rfl, hc1, hc2⟩ := h.form
  unfold maxLen at hc2
  have key : Calls Tryz.prog 125 #[.slice A l.length c, .func (.func 103) #[] #[]] w fun e w' => ∃ i : Int, e = .returned (.int .i64 i) ∧ decide (0 ≤ i) = (!(l.all may16)) ∧ Same (fun _ => True) w w' := by
    obtain ⟨X, hX⟩ : ∃ X, X = l.all may16 := ⟨_, rfl⟩
    rw [← hX]
    have HX := Lib.hid hX
    have HL := Lib.hid h
    have HM := Lib.hid hm
    have HC := Lib.hid hcall
    clear hX h hm hcall
    go_enter Tryz.func125, Tryz.ntmps125
    go_wp2
    go_loopw [8] (fun i wr => ∃ q : Nat, i = .int .i64 (q : Int) ∧ q ≤ l.length ∧ X = (l.drop q).all may16 ∧ Same (fun _ => True) w wr) (fun i _ => l.length - (intOf i).toNat)
    case atStart => exact ⟨0, rfl, Nat.zero_le _, HX.out, Same.refl _ _⟩
    case round =>
      obtain ⟨q, rfl, hq, hx, hS⟩ := hrel
      have x1 : (0 : Int) ≤ (q : Int) := by omega
      have HS := Lib.hid hS
      have HM2 := Lib.hid (HM.out.keep hS)
      by_cases hql : q < l.length
      · have x2 : (q : Int) < (l.length : Int) := by omega
        obtain ⟨ad, u, rfl, hok, hcl⟩ := LsR.at_ (HL.out.keepAll exK hS) exCsP_len hql
        obtain ⟨A_u, c_u, rfl, -, -⟩ := (show ExR _ _ u l[q] from hok).toL.form
        have d0 := hcl 0 (by omega)
        rw [add_zero] at d0
        have d1 := hcl 1 (by omega)
        rw [addr_add _ _ (by omega)] at d1
        have d2 := hcl 2 (by omega)
        rw [addr_add _ _ (by omega)] at d2
        have d3 := hcl 3 (by omega)
        rw [addr_add _ _ (by omega)] at d3
        have d4 := hcl 4 (by omega)
        rw [addr_add _ _ (by omega)] at d4
        have d5 := hcl 5 (by omega)
        rw [addr_add _ _ (by omega)] at d5
        simp only [exCsP, exCs, List.getElem?_cons_zero, List.getElem?_cons_succ] at d0 d1 d2 d3 d4 d5
        have HOK := Lib.hid hok
        have hd : l.drop q = l[q] :: l.drop (q + 1) := List.drop_eq_getElem_cons hql
        rw [hd, List.all_cons] at hx
        have HXq := Lib.hid hx
        clear hx hd hok hS hcl
        go_wp2_with (go_at_call 103; refine stopAt ?_)
        unfold Hid
        refine (HC.out q hql _ _ HOK.out HM2.out).mono ?_
        rintro e w5 ⟨rfl, hS⟩
        have HS5 := Lib.hid (HS.out.trans hS)
        clear hS
        cases hb : may16 l[q]
        · have HB : Hid (X = false) := Lib.hid (by rw [HXq.out, hb]; rfl)
          clear hb
          go_wp2
          go_ret
          exact ⟨_, rfl, by rw [HB.out]; simp, HS5.out⟩
        · have HXn : Hid (X = (l.drop (q + 1)).all may16) := Lib.hid (by rw [HXq.out, hb]; rfl)
          clear hb
          go_wp2
          go_roundw
          case rel => exact ⟨q + 1, by go_num, by omega, HXn.out, HS5.out⟩
          case measure => simp [intOf]; omega
      · obtain rfl : q = l.length := by omega
        rw [List.drop_length] at hx
        have HB : Hid (X = true) := Lib.hid (by rw [hx]; rfl)
        clear hx hS
        go_wp2
        go_ret
        exact ⟨_, rfl, by rw [HB.out]; rfl, HS.out⟩
  have HK := Lib.hid key
  clear h hcall key
  go_enter Tryz.func102, Tryz.ntmps102
  go_wp2_with (go_at_call 125; refine stopAt ?_)
  unfold Hid
  refine (show Calls _ _ _ _ _ from HK.out).mono ?_
  rintro e w1 ⟨i, rfl, hi, hS⟩
  have Hi := Lib.hid hi
  clear hi
  go_wp2
  go_ret
  exact ⟨ret_bool Hi.out, hS⟩
set_option maxRecDepth 100000 in
set_option maxHeartbeats 2000000 in
theorem contains_As (l : List Asn) (v : Value) (w : World) (h : LsR asCs 7 asOk w (fun _ => True) v l) (hm : Mx w)
    (hcall : ∀ (i : Nat) (hi : i < l.length) (u : Value) (W : World), asOk W (fun _ => True) u l[i] → Mx W → Calls Tryz.prog 104 #[asV u l[i]] W (BoolP (!(mayAsn l[i])) W)) :
    Calls Tryz.prog 105 #[v, .func (.func 104) #[] #[]] w (BoolP (!(l.all mayAsn)) w) := by
  obtain ⟨A, c, rfl, hc1, hc2⟩ := h.form
  unfold maxLen at hc2
  have key : Calls Tryz.prog 126 #[.slice A l.length c, .func (.func 104) #[] #[]] w fun e w' => ∃ i : Int, e = .returned (.int .i64 i) ∧ decide (0 ≤ i) = (!(l.all mayAsn)) ∧ Same (fun _ => True) w w' := by
    obtain ⟨X, hX⟩ : ∃ X, X = l.all mayAsn := ⟨_, rfl⟩
    rw [← hX]
    have HX := Lib.hid hX
    have HL := Lib.hid h
    have HM := Lib.hid hm
    have HC := Lib.hid hcall
    clear hX h hm hcall
    go_enter Tryz.func126, Tryz.ntmps126
    go_wp2
    go_loopw [8] (fun i wr => ∃ q : Nat, i = .int .i64 (q : Int) ∧ q ≤ l.length ∧ X = (l.drop q).all mayAsn ∧ Same (fun _ => True) w wr) (fun i _ => l.length - (intOf i).toNat)
    case atStart => exact ⟨0, rfl, Nat.zero_le _, HX.out, Same.refl _ _⟩
    case round =>
      obtain ⟨q, rfl, hq, hx, hS⟩ := hrel
      have x1 : (0 : Int) ≤ (q : Int) := by omega
      have HS := Lib.hid hS
      have HM2 := Lib.hid (HM.out.keep hS)
      by_cases hql : q < l.length
      · have x2 : (q : Int) < (l.length : Int) := by omega
        obtain ⟨ad, u, rfl, hok, hcl⟩ := LsR.at_ (HL.out.keepAll asK hS) asCs_len hql
        obtain ⟨A_u, c_u, rfl, -, -⟩ := (show ExR _ _ u l[q].e from hok).toL.form
        have d0 := hcl 0 (by omega)
        rw [add_zero] at d0
        have d1 := hcl 1 (by omega)
        rw [addr_add _ _ (by omega)] at d1
        have d2 := hcl 2 (by omega)
        rw [addr_add _ _ (by omega)] at d2
        have d3 := hcl 3 (by omega)
        rw [addr_add _ _ (by omega)] at d3
        have d4 := hcl 4 (by omega)
        rw [addr_add _ _ (by omega)] at d4
        have d5 := hcl 5 (by omega)
        rw [addr_add _ _ (by omega)] at d5
        have d6 := hcl 6 (by omega)
        rw [addr_add _ _ (by omega)] at d6
        simp only [asCs, exCs, List.getElem?_cons_zero, List.getElem?_cons_succ] at d0 d1 d2 d3 d4 d5 d6
        have HOK := Lib.hid hok
        have hd : l.drop q = l[q] :: l.drop (q + 1) := List.drop_eq_getElem_cons hql
        rw [hd, List.all_cons] at hx
        have HXq := Lib.hid hx
        clear hx hd hok hS hcl
        go_wp2_with (go_at_call 104; refine stopAt ?_)
        unfold Hid
        refine (HC.out q hql _ _ HOK.out HM2.out).mono ?_
        rintro e w5 ⟨rfl, hS⟩
        have HS5 := Lib.hid (HS.out.trans hS)
        clear hS
        cases hb : mayAsn l[q]
        · have HB : Hid (X = false) := Lib.hid (by rw [HXq.out, hb]; rfl)
          clear hb
          go_wp2
          go_ret
          exact ⟨_, rfl, by rw [HB.out]; simp, HS5.out⟩
        · have HXn : Hid (X = (l.drop (q + 1)).all mayAsn) := Lib.hid (by rw [HXq.out, hb]; rfl)
          clear hb
          go_wp2
          go_roundw
          case rel => exact ⟨q + 1, by go_num, by omega, HXn.out, HS5.out⟩
          case measure => simp [intOf]; omega
      · obtain rfl : q = l.length := by omega
        rw [List.drop_length] at hx
        have HB : Hid (X = true) := Lib.hid (by rw [hx]; rfl)
        clear hx hS
        go_wp2
        go_ret
        exact ⟨_, rfl, by rw [HB.out]; rfl, HS.out⟩
  have HK := Lib.hid key
  clear h hcall key
  go_enter Tryz.func105, Tryz.ntmps105
  go_wp2_with (go_at_call 126; refine stopAt ?_)
  unfold Hid
  refine (show Calls _ _ _ _ _ from HK.out).mono ?_
  rintro e w1 ⟨i, rfl, hi, hS⟩
  have Hi := Lib.hid hi
  clear hi
  go_wp2
  go_ret
  exact ⟨ret_bool Hi.out, hS⟩
theorem i_le {a b : Nat} (h : a ≤ b) : decide ((a : Int) ≤ (b : Int)) = true := decide_eq_true (by omega)
theorem i_nle {a b : Nat} (h : ¬ a ≤ b) : decide ((a : Int) ≤ (b : Int)) = false := decide_eq_false (by omega)
set_option maxHeartbeats 2000000 in
theorem maysets_any (l : List Asn) (v : Value) (w : World) (h : LsR asCs 7 asOk w (fun _ => True) v l) (hm : Mx w) : Calls Tryz.prog 62 #[v] w (BoolP (maySets l) w) := by
  obtain ⟨A, c, rfl, hc1, hc2⟩ := h.form
  obtain ⟨X, hX⟩ : ∃ X, X = maySets l := ⟨_, rfl⟩
  rw [← hX]
  have hX : X = (decide (1 ≤ l.length) && decide (l.length ≤ 6) && l.all mayAsn) := hX
  have HX := Lib.hid hX
  have HL := Lib.hid h
  have HM := Lib.hid hm
  clear hX h hm
  by_cases h1 : 1 ≤ l.length
  · have e1 : decide ((1 : Int) ≤ (l.length : Int)) = true := i_le h1
    by_cases h6 : l.length ≤ 6
    · have e6 : decide ((l.length : Int) ≤ 6) = true := i_le h6
      have HB : Hid ((l.all mayAsn) = X) := Lib.hid (by rw [HX.out, decide_eq_true h1, decide_eq_true h6]; simp)
      clear h1 h6
      go_enter Tryz.func62, Tryz.ntmps62
      go_wp2_with (go_at_call 105; refine stopAt ?_)
      unfold Hid
      refine (contains_As l _ w HL.out HM.out fun i hi u W hu hm => bad2_any l[i] u W hu hm).mono ?_
      rintro e w2 ⟨rfl, hS⟩
      go_wp2
      go_ret
      exact ⟨ret_bool HB.out, hS⟩
    · have e6 : decide ((l.length : Int) ≤ 6) = false := i_nle h6
      have HB : Hid (false = X) := Lib.hid (by rw [HX.out, decide_eq_false h6]; simp)
      clear h1 h6
      go_enter Tryz.func62, Tryz.ntmps62
      go_wp2
      go_ret
      exact ⟨ret_bool HB.out, Same.refl _ _⟩
  · have e1 : decide ((1 : Int) ≤ (l.length : Int)) = false := i_nle h1
    have HB : Hid (false = X) := Lib.hid (by rw [HX.out, decide_eq_false h1]; simp)
    clear h1
    go_enter Tryz.func62, Tryz.ntmps62
    go_wp2
    go_ret
    exact ⟨ret_bool HB.out, Same.refl _ _⟩
set_option maxRecDepth 100000 in
set_option maxHeartbeats 4000000 in
theorem mayrows_any (l : List (List Ex)) (v : Value) (w : World) (h : LsR rwCs 1 rwOk w (fun _ => True) v l) (hm : Mx w) : Calls Tryz.prog 61 #[v] w (BoolP (mayRows l) w) := by
  obtain ⟨A, c, rfl, hc1, hc2⟩ := h.form
  unfold maxLen at hc2
  obtain ⟨X, hX⟩ : ∃ X, X = mayRows l := ⟨_, rfl⟩
  rw [← hX]
  have HX : Hid (X = (l.all (mayRow) && decide (1 ≤ l.length) && decide (l.length ≤ 16))) := Lib.hid hX
  have HL := Lib.hid h
  have HM := Lib.hid hm
  clear hX h hm
  go_enter Tryz.func61, Tryz.ntmps61
  go_wp2
  go_loopw [7] (fun i wr => ∃ q : Nat, i = .int .i64 (q : Int) ∧ q ≤ l.length ∧ X = ((l.drop q).all (mayRow) && decide (1 ≤ l.length) && decide (l.length ≤ 16)) ∧ Same (fun _ => True) w wr) (fun i _ => l.length - (intOf i).toNat)
  case atStart => exact ⟨0, rfl, Nat.zero_le _, HX.out, Same.refl _ _⟩
  case round =>
      obtain ⟨q, rfl, hq, hx, hS⟩ := hrel
      have x1 : (0 : Int) ≤ (q : Int) := by omega
      have HS := Lib.hid hS
      have HM2 := Lib.hid (HM.out.keep hS)
      by_cases hql : q < l.length
      · have x2 : (q : Int) < (l.length : Int) := by omega
        obtain ⟨ad, u, rfl, hok, hcl⟩ := LsR.at_ (HL.out.keepAll rwK hS) rwCs_len hql
        obtain ⟨A_u, c_u, rfl, -, -⟩ := (show ExL _ _ u l[q] from hok).form
        have d0 := hcl 0 (by omega)
        rw [add_zero, Nat.mul_one] at d0
        simp only [rwCs, List.getElem?_cons_zero, List.getElem?_cons_succ] at d0
        have HOK := Lib.hid hok
        have hd : l.drop q = l[q] :: l.drop (q + 1) := List.drop_eq_getElem_cons hql
        rw [hd, List.all_cons] at hx
        have HXq := Lib.hid hx
        clear hx hd hok hS hcl
        generalize hr : l[q] = r at *
        by_cases h1 : 1 ≤ r.length
        · have e1 : ((r.length : Int) == 0) = false := no_k (show ¬ r.length = 0 by omega)
          by_cases h6 : r.length ≤ 6
          · have e6 : decide ((6 : Int) < (r.length : Int)) = false := decide_eq_false (by omega)
            have HE8 : Hid (mayRow r = r.all may16) := Lib.hid (by unfold mayRow; rw [decide_eq_true h1, decide_eq_true h6]; rfl)
            clear h1 h6 hr
            go_wp2_with (go_at_call 102; refine stopAt ?_)
            unfold Hid
            refine (contains_Ex r _ wr (ls_exL.2 HOK.out) HM2.out fun i hi u W hu hm => bad1_any r[i] u W hu hm).mono ?_
            rintro e w5 ⟨rfl, hS⟩
            have HS5 := Lib.hid (HS.out.trans hS)
            clear hS
            cases hb : r.all may16
            · have HE9 : Hid (mayRow r = false) := Lib.hid (by rw [HE8.out, hb])
              clear hb
              have HB : Hid (false = X) := Lib.hid (by rw [HXq.out, HE9.out]; rfl)
              go_wp2
              go_ret
              exact ⟨ret_bool HB.out, HS5.out⟩
            · have HE9 : Hid (mayRow r = true) := Lib.hid (by rw [HE8.out, hb])
              clear hb
              have HXn : Hid (X = ((l.drop (q + 1)).all (mayRow) && decide (1 ≤ l.length) && decide (l.length ≤ 16))) := Lib.hid (by rw [HXq.out, HE9.out]; rfl)
              go_wp2
              go_roundw
              case rel => exact ⟨q + 1, by go_num, by omega, HXn.out, HS5.out⟩
              case measure => simp [intOf]; omega
          · have e6 : decide ((6 : Int) < (r.length : Int)) = true := decide_eq_true (by omega)
            have HE9 : Hid (mayRow r = false) := Lib.hid (by unfold mayRow; rw [decide_eq_false h6]; simp)
            clear h1 h6 hr
            have HB : Hid (false = X) := Lib.hid (by rw [HXq.out, HE9.out]; rfl)
            go_wp2
            go_ret
            exact ⟨ret_bool HB.out, HS.out⟩
        · have e1 : ((r.length : Int) == 0) = true := by rw [show r.length = 0 by omega]; rfl
          have HE9 : Hid (mayRow r = false) := Lib.hid (by unfold mayRow; rw [decide_eq_false h1]; simp)
          clear h1 hr
          have HB : Hid (false = X) := Lib.hid (by rw [HXq.out, HE9.out]; rfl)
          go_wp2
          go_ret
          exact ⟨ret_bool HB.out, HS.out⟩
      · obtain rfl : q = l.length := by omega
        rw [List.drop_length] at hx
        have HXe := Lib.hid hx
        clear hx hS
        by_cases h1 : 1 ≤ l.length
        · have e1 : decide ((1 : Int) ≤ (l.length : Int)) = true := i_le h1
          by_cases h6 : l.length ≤ 16
          · have e6 : decide ((l.length : Int) ≤ 16) = true := i_le h6
            have HB : Hid (true = X) := Lib.hid (by rw [HXe.out, decide_eq_true h1, decide_eq_true h6]; rfl)
            clear h1 h6
            go_wp2
            go_ret
            exact ⟨ret_bool HB.out, HS.out⟩
          · have e6 : decide ((l.length : Int) ≤ 16) = false := i_nle h6
            have HB : Hid (false = X) := Lib.hid (by rw [HXe.out, decide_eq_false h6]; simp)
            clear h1 h6
            go_wp2
            go_ret
            exact ⟨ret_bool HB.out, HS.out⟩
        · have e1 : decide ((1 : Int) ≤ (l.length : Int)) = false := i_nle h1
          have HB : Hid (false = X) := Lib.hid (by rw [HXe.out, decide_eq_false h1]; simp)
          clear h1
          go_wp2
          go_ret
          exact ⟨ret_bool HB.out, HS.out⟩
set_option maxRecDepth 100000 in
set_option maxHeartbeats 4000000 in
theorem mayitems_any (l : List Itm) (v : Value) (w : World) (h : LsR itCs 7 itOk w (fun _ => True) v l) (hm : Mx w) : Calls Tryz.prog 60 #[v] w (BoolP (mayIs l) w) := by
  obtain ⟨A, c, rfl, hc1, hc2⟩ := h.form
  unfold maxLen at hc2
  obtain ⟨X, hX⟩ : ∃ X, X = mayIs l := ⟨_, rfl⟩
  rw [← hX]
  have HX : Hid (X = (l.all (mayI l.length) && decide (1 ≤ l.length) && decide (l.length ≤ 6))) := Lib.hid hX
  have HL := Lib.hid h
  have HM := Lib.hid hm
  clear hX h hm
  go_enter Tryz.func60, Tryz.ntmps60
  go_wp2
  go_loopw [7] (fun i wr => ∃ q : Nat, i = .int .i64 (q : Int) ∧ q ≤ l.length ∧ X = ((l.drop q).all (mayI l.length) && decide (1 ≤ l.length) && decide (l.length ≤ 6)) ∧ Same (fun _ => True) w wr) (fun i _ => l.length - (intOf i).toNat)
  case atStart => exact ⟨0, rfl, Nat.zero_le _, HX.out, Same.refl _ _⟩
  case round =>
      obtain ⟨q, rfl, hq, hx, hS⟩ := hrel
      have x1 : (0 : Int) ≤ (q : Int) := by omega
      have HS := Lib.hid hS
      have HM2 := Lib.hid (HM.out.keep hS)
      by_cases hql : q < l.length
      · have x2 : (q : Int) < (l.length : Int) := by omega
        obtain ⟨ad, u, rfl, hok, hcl⟩ := LsR.at_ (HL.out.keepAll itK hS) itCs_len hql
        obtain ⟨A_u, c_u, rfl, -, -⟩ := (show ExR _ _ u l[q].e from hok).toL.form
        have d0 := hcl 0 (by omega)
        rw [add_zero] at d0
        have d1 := hcl 1 (by omega)
        rw [addr_add _ _ (by omega)] at d1
        have d2 := hcl 2 (by omega)
        rw [addr_add _ _ (by omega)] at d2
        have d3 := hcl 3 (by omega)
        rw [addr_add _ _ (by omega)] at d3
        have d4 := hcl 4 (by omega)
        rw [addr_add _ _ (by omega)] at d4
        have d5 := hcl 5 (by omega)
        rw [addr_add _ _ (by omega)] at d5
        have d6 := hcl 6 (by omega)
        rw [addr_add _ _ (by omega)] at d6
        simp only [itCs, exCs, List.getElem?_cons_zero, List.getElem?_cons_succ] at d0 d1 d2 d3 d4 d5 d6
        have HOK := Lib.hid hok
        have hd : l.drop q = l[q] :: l.drop (q + 1) := List.drop_eq_getElem_cons hql
        rw [hd, List.all_cons] at hx
        have HXq := Lib.hid hx
        clear hx hd hok hS hcl
        generalize hy : l[q] = y at *
        clear hy
        by_cases k1 : y.kind = 1
        · have f1 := int_eq_t k1
          by_cases hl : l.length ≤ 1
          · have f2 : decide ((1 : Int) < (l.length : Int)) = false := decide_eq_false (by omega)
            have HE8 : Hid (mayI l.length y = blankE y.e) := Lib.hid (by unfold mayI; rw [if_pos k1, decide_eq_true hl]; rfl)
            clear k1 hl
            go_wp2_with (go_at_call 59; refine stopAt ?_)
            unfold Hid
            refine (blank_any y.e _ _ (ExR.keepAll HOK.out ((Same.refl (fun _ => True) wr).alloc _))).mono ?_
            rintro e w5 ⟨rfl, hS⟩
            have HS5 := Lib.hid ((HS.out.trans ((Same.refl (fun _ => True) wr).alloc _)).trans hS)
            clear hS
            cases hb : blankE y.e
            · have HE9 : Hid (mayI l.length y = false) := Lib.hid (by rw [HE8.out, hb])
              clear hb
              have HB : Hid (false = X) := Lib.hid (by rw [HXq.out, HE9.out]; rfl)
              go_wp2
              go_ret
              exact ⟨ret_bool HB.out, HS5.out⟩
            · have HE9 : Hid (mayI l.length y = true) := Lib.hid (by rw [HE8.out, hb])
              clear hb
              have HXn : Hid (X = ((l.drop (q + 1)).all (mayI l.length) && decide (1 ≤ l.length) && decide (l.length ≤ 6))) := Lib.hid (by rw [HXq.out, HE9.out]; rfl)
              go_wp2
              go_roundw
              case rel => exact ⟨q + 1, by go_num, by omega, HXn.out, HS5.out⟩
              case measure => simp [intOf]; omega
          · have f2 : decide ((1 : Int) < (l.length : Int)) = true := decide_eq_true (by omega)
            have HE9 : Hid (mayI l.length y = false) := Lib.hid (by unfold mayI; rw [if_pos k1, decide_eq_false hl]; rfl)
            clear k1 hl
            have HB : Hid (false = X) := Lib.hid (by rw [HXq.out, HE9.out]; rfl)
            go_wp2
            go_ret
            exact ⟨ret_bool HB.out, HS.out.trans ((Same.refl (fun _ => True) wr).alloc _)⟩
        have f1 := int_eq_f k1
        by_cases k3 : y.kind = 3
        · have f3 := int_eq_t k3
          have HE8 : Hid (mayI l.length y = blankE y.e) := Lib.hid (by unfold mayI; rw [if_neg k1, if_pos k3])
          clear k1 k3
          go_wp2_with (go_at_call 59; refine stopAt ?_)
          unfold Hid
          refine (blank_any y.e _ _ (ExR.keepAll HOK.out ((Same.refl (fun _ => True) wr).alloc _))).mono ?_
          rintro e w5 ⟨rfl, hS⟩
          have HS5 := Lib.hid ((HS.out.trans ((Same.refl (fun _ => True) wr).alloc _)).trans hS)
          clear hS
          cases hb : blankE y.e
          · have HE9 : Hid (mayI l.length y = false) := Lib.hid (by rw [HE8.out, hb])
            clear hb
            have HB : Hid (false = X) := Lib.hid (by rw [HXq.out, HE9.out]; rfl)
            go_wp2
            go_ret
            exact ⟨ret_bool HB.out, HS5.out⟩
          · have HE9 : Hid (mayI l.length y = true) := Lib.hid (by rw [HE8.out, hb])
            clear hb
            have HXn : Hid (X = ((l.drop (q + 1)).all (mayI l.length) && decide (1 ≤ l.length) && decide (l.length ≤ 6))) := Lib.hid (by rw [HXq.out, HE9.out]; rfl)
            go_wp2
            go_roundw
            case rel => exact ⟨q + 1, by go_num, by omega, HXn.out, HS5.out⟩
            case measure => simp [intOf]; omega
        have f3 := int_eq_f k3
        by_cases k2 : y.kind = 2
        · have f2 := int_eq_t k2
          have HE8 : Hid (mayI l.length y = mayE y.e 16) := Lib.hid (by unfold mayI; rw [if_neg k1, if_neg k3, if_pos (.inl k2)])
          clear k1 k2 k3
          go_wp2_with (go_at_call 58; refine stopAt ?_)
          unfold Hid
          refine (mayx_any y.e 16 _ _ (by omega) (ExR.keepAll HOK.out ((Same.refl (fun _ => True) wr).alloc _)) (HM2.out.keep ((Same.refl (fun _ => True) wr).alloc _))).mono ?_
          rintro e w5 ⟨rfl, hS⟩
          have HS5 := Lib.hid ((HS.out.trans ((Same.refl (fun _ => True) wr).alloc _)).trans hS)
          clear hS
          cases hb : mayE y.e 16
          · have HE9 : Hid (mayI l.length y = false) := Lib.hid (by rw [HE8.out, hb])
            clear hb
            have HB : Hid (false = X) := Lib.hid (by rw [HXq.out, HE9.out]; rfl)
            go_wp2
            go_ret
            exact ⟨ret_bool HB.out, HS5.out⟩
          · have HE9 : Hid (mayI l.length y = true) := Lib.hid (by rw [HE8.out, hb])
            clear hb
            have HXn : Hid (X = ((l.drop (q + 1)).all (mayI l.length) && decide (1 ≤ l.length) && decide (l.length ≤ 6))) := Lib.hid (by rw [HXq.out, HE9.out]; rfl)
            go_wp2
            go_roundw
            case rel => exact ⟨q + 1, by go_num, by omega, HXn.out, HS5.out⟩
            case measure => simp [intOf]; omega
        have f2 := int_eq_f k2
        by_cases k4 : y.kind = 4
        · have f4 := int_eq_t k4
          have HE8 : Hid (mayI l.length y = mayE y.e 16) := Lib.hid (by unfold mayI; rw [if_neg k1, if_neg k3, if_pos (.inr k4)])
          clear k1 k2 k3 k4
          go_wp2_with (go_at_call 58; refine stopAt ?_)
          unfold Hid
          refine (mayx_any y.e 16 _ _ (by omega) (ExR.keepAll HOK.out ((Same.refl (fun _ => True) wr).alloc _)) (HM2.out.keep ((Same.refl (fun _ => True) wr).alloc _))).mono ?_
          rintro e w5 ⟨rfl, hS⟩
          have HS5 := Lib.hid ((HS.out.trans ((Same.refl (fun _ => True) wr).alloc _)).trans hS)
          clear hS
          cases hb : mayE y.e 16
          · have HE9 : Hid (mayI l.length y = false) := Lib.hid (by rw [HE8.out, hb])
            clear hb
            have HB : Hid (false = X) := Lib.hid (by rw [HXq.out, HE9.out]; rfl)
            go_wp2
            go_ret
            exact ⟨ret_bool HB.out, HS5.out⟩
          · have HE9 : Hid (mayI l.length y = true) := Lib.hid (by rw [HE8.out, hb])
            clear hb
            have HXn : Hid (X = ((l.drop (q + 1)).all (mayI l.length) && decide (1 ≤ l.length) && decide (l.length ≤ 6))) := Lib.hid (by rw [HXq.out, HE9.out]; rfl)
            go_wp2
            go_roundw
            case rel => exact ⟨q + 1, by go_num, by omega, HXn.out, HS5.out⟩
            case measure => simp [intOf]; omega
        have f4 := int_eq_f k4
        have HE9 : Hid (mayI l.length y = false) := Lib.hid (by unfold mayI; rw [if_neg k1, if_neg k3, if_neg (by rintro (h | h); exact k2 h; exact k4 h)])
        clear k1 k2 k3 k4
        have HB : Hid (false = X) := Lib.hid (by rw [HXq.out, HE9.out]; rfl)
        go_wp2
        go_ret
        exact ⟨ret_bool HB.out, HS.out.trans ((Same.refl (fun _ => True) wr).alloc _)⟩
      · obtain rfl : q = l.length := by omega
        rw [List.drop_length] at hx
        have HXe := Lib.hid hx
        clear hx hS
        by_cases h1 : 1 ≤ l.length
        · have e1 : decide ((1 : Int) ≤ (l.length : Int)) = true := i_le h1
          by_cases h6 : l.length ≤ 6
          · have e6 : decide ((l.length : Int) ≤ 6) = true := i_le h6
            have HB : Hid (true = X) := Lib.hid (by rw [HXe.out, decide_eq_true h1, decide_eq_true h6]; rfl)
            clear h1 h6
            go_wp2
            go_ret
            exact ⟨ret_bool HB.out, HS.out⟩
          · have e6 : decide ((l.length : Int) ≤ 6) = false := i_nle h6
            have HB : Hid (false = X) := Lib.hid (by rw [HXe.out, decide_eq_false h6]; simp)
            clear h1 h6
            go_wp2
            go_ret
            exact ⟨ret_bool HB.out, HS.out⟩
        · have e1 : decide ((1 : Int) ≤ (l.length : Int)) = false := i_nle h1
          have HB : Hid (false = X) := Lib.hid (by rw [HXe.out, decide_eq_false h1]; simp)
          clear h1
          go_wp2
          go_ret
          exact ⟨ret_bool HB.out, HS.out⟩
end Go.Proofs.YtdfojghhpdkpfaaGreatDoor
