/-
  Words, plain models, laws and walks that the claims of this layer share (joined by shake.py). No condition.
-/
import Derived.Recover
import Derived.HandedShaped
import Derived.ChangeMaps5
import Derived.Lay
import Derived.Lib.LaidU8
import Derived.Lib.LaidTab
import Derived.Test.YtdfojghhpdkpfaaGreatDoorA11
set_option linter.unusedSimpArgs false
set_option linter.unusedVariables false
namespace Go.Proofs.YtdfojghhpdkpfaaGreatDoor
open Go.RowKit
def endF (x : LotM) (l : List PT) : PR LotM := if (hdT l).2.kind = 0 then .ok (x, l) else wrongT 13 l
def lotF (ss : List Stm) (l : List PT) : PR LotM := thenT (asofT ss l) endF
theorem lot_eq (l : List PT) : lotP l = thenT (stmtT l) fun s l1 => thenT (stmtsT l1.length [s] l1) lotF := rfl
theorem lot_results {W : World} {k : Nat} {u : Value} {l : LotM} (R : Row W k 25 (ltCs u l)) {tmps : Array Value} (h1 : tmps.getD 2 undef = .pointer (some ⟨k, 0, none⟩)) :
    (results Tryz.f24 tmps).run Tryz.prog W = .ok (ltV u l) W := by
  have d0 : W.cell? ⟨k, 0, none⟩ = some (.int .i64 l.mode) := R.cell 0
  have d1 : W.cell? ⟨k, 1, none⟩ = some (.int .i64 l.n) := R.cell 1
  have d2 : W.cell? ⟨k, 2, none⟩ = some (u) := R.cell 2
  simp at h1
  simp [results, Tryz.results24, h1, go_sem, d0, d1, d2]
set_option maxRecDepth 100000 in
set_option maxHeartbeats 16000000 in
theorem lot_any (g t : Nat) (l : List PT) (w : World) (h : PS w g t l 0) : Calls Tryz.prog 24 #[pV g] w (DoP g t 0 (lotP l) (LtG w.heap.size) w) := by
  obtain ⟨X, hX⟩ : ∃ X, X = lotP l := ⟨_, rfl⟩
  rw [← hX]
  rw [lot_eq] at hX
  have HX := Lib.hid hX
  obtain ⟨zg3, zg4, zg5⟩ := h.lt3
  have hS0 := (Same.refl (fun _ => True) w).alloc (.cells zlt.toArray 25)
  have hz0 : (w.alloc (.cells zlt.toArray 25)).heap.size = w.heap.size + 1 := by simp
  have HRR := Lib.hid (Row.new w 25 zlt)
  have HP := Lib.hid (h.keep hS0)
  have HS := Lib.hid (hS0.mono (S' := fun q => q ≠ g) fun _ _ _ => trivial)
  clear h hX hS0
  go_enter Tryz.func24, Tryz.ntmps24
  go_wp2_with (go_at_call 36; refine stopAt ?_)
  unfold Hid
  simp only [zlt] at HRR HP HS hz0
  revert HRR HP HS hz0
  generalize w.alloc _ = w0
  intro hz0 HRR HP HS
  refine (stmt_any g t l w0 HP.out).mono ?_
  intro e w1 hR_
  cases hx : stmtT l with
  | error p =>
    rw [hx] at hR_
    obtain ⟨rfl, hE⟩ := hR_
    have hq : DoP g t 0 X (LtG w.heap.size) w (.panicked [{ v := failV p.1 p.2, recovered := false }]) w1 := by
      rw [HX.out, hx]
      exact ⟨rfl, HS.out.trans hE⟩
    exact ⟨rfl, hq⟩
  | ok q =>
    obtain ⟨s, l1⟩ := q
    rw [hx] at hR_
    obtain ⟨v, rfl, ⟨u, rfl, hst⟩, hp, hS⟩ := hR_
    have hX := HX.out
    rw [hx, thenT_ok] at hX
    have HX := Lib.hid hX
    clear hX hx
    have hSz := hS.size
    have HRR := Lib.hid (HRR.out.keep hS (by omega))
    have HS := Lib.hid (HS.out.trans hS)
    have HP := Lib.hid hp
    clear hp hS
    obtain ⟨ui, ur, us, uc⟩ := u
    obtain ⟨A1, c1, q1, -⟩ := LsR.form (show LsR itCs 7 itOk _ _ ui s.items from hst.1)
    subst q1
    obtain ⟨A2, c2, q2, -⟩ := LsR.form (show LsR rwCs 1 rwOk _ _ ur s.rows from hst.2.1)
    subst q2
    obtain ⟨A3, c3, q3, -⟩ := LsR.form (show LsR asCs 7 asOk _ _ us s.sets from hst.2.2.1)
    subst q3
    obtain ⟨A4, c4, q4, -⟩ := (show ExR _ _ uc s.cond from hst.2.2.2).toL.form
    subst q4
    obtain ⟨BB, hBB⟩ : ∃ B, B = w.heap.size + 1 := ⟨_, rfl⟩
    obtain ⟨gs, hgs⟩ : ∃ gs, gs = w1.heap.size + 1 := ⟨_, rfl⟩
    have hO1 := OwnL.one (B := BB) (e := 44) stCsP_len (okG_K stK gs) (show okG StR gs w1 (fun q => BB ≤ q) (⟨.slice A1 s.items.length c1, .slice A2 s.rows.length c2, .slice A3 s.sets.length c3, .slice A4 s.cond.args.length c4⟩ : SU) s from stK.mono hst fun q hq (h : w0.heap.size ≤ q) => ⟨by omega, by omega⟩) (by omega)
    have hSA := (Same.refl (fun _ => True) w1).alloc (.cells (stCsP ((⟨.slice A1 s.items.length c1, .slice A2 s.rows.length c2, .slice A3 s.sets.length c3, .slice A4 s.cond.args.length c4⟩ : SU), s)).toArray 44)
    have hSB := (Same.refl (fun _ => True) (w1.alloc (.cells (stCsP ((⟨.slice A1 s.items.length c1, .slice A2 s.rows.length c2, .slice A3 s.sets.length c3, .slice A4 s.cond.args.length c4⟩ : SU), s)).toArray 44))).alloc (.cells ([.int .i64 0, .int .i64 0, .slice (some ⟨w1.heap.size, 0, none⟩) 1 1] : List Value).toArray 25)
    have hzA : (w1.alloc (.cells (stCsP ((⟨.slice A1 s.items.length c1, .slice A2 s.rows.length c2, .slice A3 s.sets.length c3, .slice A4 s.cond.args.length c4⟩ : SU), s)).toArray 44)).heap.size = w1.heap.size + 1 := by simp
    have hzB : ((w1.alloc (.cells (stCsP ((⟨.slice A1 s.items.length c1, .slice A2 s.rows.length c2, .slice A3 s.sets.length c3, .slice A4 s.cond.args.length c4⟩ : SU), s)).toArray 44)).alloc (.cells ([.int .i64 0, .int .i64 0, .slice (some ⟨w1.heap.size, 0, none⟩) 1 1] : List Value).toArray 25)).heap.size = w1.heap.size + 2 := by simp
    have hr0 := Row.new (w1.alloc (.cells (stCsP ((⟨.slice A1 s.items.length c1, .slice A2 s.rows.length c2, .slice A3 s.sets.length c3, .slice A4 s.cond.args.length c4⟩ : SU), s)).toArray 44)) 25 ([.int .i64 0, .int .i64 0, .slice (some ⟨w1.heap.size, 0, none⟩) 1 1] : List Value)
    rw [hzA, ← hgs] at hr0
    have hov : OwnG stCsP 15 44 StR ((w1.alloc (.cells (stCsP ((⟨.slice A1 s.items.length c1, .slice A2 s.rows.length c2, .slice A3 s.sets.length c3, .slice A4 s.cond.args.length c4⟩ : SU), s)).toArray 44)).alloc (.cells ([.int .i64 0, .int .i64 0, .slice (some ⟨w1.heap.size, 0, none⟩) 1 1] : List Value).toArray 25)) BB gs (.slice (some ⟨w1.heap.size, 0, none⟩) 1 1) [s] := ⟨hO1.keepAll (okG_K stK gs) hSB, fun e => by injection e with e; have e : gs = w1.heap.size := e; omega⟩
    have hsh := HP.out.short
    have hSC := hSA.trans hSB
    have hp0 := HP.out.keep hSC
    have hSC := hSC.mono (S' := fun q => q ≠ g) fun _ _ _ => trivial
    have hrr0 := HRR.out.keep hSC (by omega)
    have hs0 := HS.out.trans hSC
    have HSH := Lib.hid hsh
    have HOV := Lib.hid hov
    have HR := Lib.hid hr0
    have HP := Lib.hid hp0
    have HRR := Lib.hid hrr0
    have HS := Lib.hid hs0
    have hg1 : w.heap.size < gs := by omega
    have hBG : BB ≤ gs := by omega
    have hgB : g < BB := by omega
    have HLB : Hid (g < BB ∧ t < BB ∧ 1 < BB) := Lib.hid ⟨by omega, by omega, by omega⟩
    clear hO1 hSA hSB hr0 hov hsh hSC hp0 hrr0 hs0 hst
    simp only [stCsP, stCs] at HOV HR HP HRR HS hzA hzB
    go_upto_block 0 with (fail)
    revert hzB HOV HR HP HRR HS
    generalize (w1.alloc _).alloc _ = wl
    intro hzB HOV HR HP HRR HS
    rw [← hgs]
    have hg2 : gs < wl.heap.size := by omega
    clear hgs hzA hzB
    go_cut [] from 8 to 27 (fun wx => ∃ (W : World) (A : Option Addr) (c : Nat) (ss : List Stm) (l2 : List PT), W = wx ∧ X = lotF ss l2 ∧ OwnG stCsP 15 44 StR W BB gs (.slice A ss.length c) (ss) ∧ Row W gs 25 [.int .i64 0, .int .i64 0, .slice A ss.length c] ∧ PS W g t l2 0 ∧ Row W w.heap.size 25 [.int .i64 0, .int .i64 0, .slice none 0 0] ∧ Same (fun q => q ≠ g) w W)
    case first =>
      go_wp2_with (fail)
      go_loopw [] (fun wr => ∃ (k : Nat) (acc : List Stm) (l' : List PT) (A : Option Addr) (c : Nat), X = thenT (stmtsT k acc l') lotF ∧ l'.length ≤ k ∧ acc.length + l'.length ≤ 1000001 ∧ OwnG stCsP 15 44 StR wr BB gs (.slice A acc.length c) (acc) ∧ Row wr gs 25 [.int .i64 0, .int .i64 0, .slice A acc.length c] ∧ PS wr g t l' 0 ∧ Row wr w.heap.size 25 [.int .i64 0, .int .i64 0, .slice none 0 0] ∧ Same (fun q => q ≠ g) w wr) (fun wr => tokLen wr g)
      case atStart => exact ⟨_, [s], l1, _, 1, HX.out, Nat.le_refl _, by have := HSH.out; simp; omega, HOV.out, HR.out, HP.out, HRR.out, HS.out⟩
      case round =>
        clear HX HP HOV HS HR HRR
        obtain ⟨k, acc, l', A, c, hX, hlk, hal, hov, hr, hp, hrr, hS⟩ := hrel
        obtain ⟨hv1, hv2⟩ : acc.length ≤ c ∧ c ≤ maxLen := by
          obtain ⟨A', c', e', q1, q2⟩ := hov.form
          injection e' with e1 e2 e3
          subst e3
          exact ⟨q1, q2⟩
        have hpos := hp.end_.pos
        obtain ⟨k', rfl⟩ : ∃ k', k = k' + 1 := ⟨k - 1, by omega⟩
        unfold stmtsT at hX
        unfold maxLen at hv2
        have HX := Lib.hid hX
        have HLK := Lib.hid hlk
        have HAL := Lib.hid hal
        have HOV := Lib.hid hov
        have HP := Lib.hid hp
        have HPr := HP
        have HR := Lib.hid hr
        have HRR := Lib.hid hrr
        have HS := Lib.hid hS
        have hWz := hr.lt
        clear hX hlk hal hov hp hS hr hrr
        go_wp2_with (go_at_call 37; refine stopAt ?_)
        unfold Hid
        refine (take_any g t l' 0 [59] _ HP.out).mono ?_
        rintro e w3 ⟨rfl, hp, hS⟩
        have hSz := hS.size
        have HR := Lib.hid (HR.out.keep hS (by omega))
        have HRR := Lib.hid (HRR.out.keep hS (by omega))
        have HOV := Lib.hid (HOV.out.keep stK hS fun q hq _ _ => by omega)
        have HS := Lib.hid (HS.out.trans hS)
        have HP := Lib.hid hp
        clear hp hS
        cases hq : isT [59] l'
        · have hp := HP.out
          rw [hq, if_neg (by simp)] at hp
          have HP := Lib.hid hp
          have hX := HX.out
          rw [hq, if_neg (by simp)] at hX
          have HX := Lib.hid hX
          clear hX
          have HQ := Lib.hid hq
          clear hq hp
          have hX := HX.out
          rw [thenT_ok] at hX
          have HX := Lib.hid hX
          clear hX
          go_wp2
          go_meet
          case rel => exact ⟨_, A, c, acc, l', rfl, HX.out, HOV.out, HR.out, HP.out, HRR.out, HS.out⟩
        · have hp := HP.out
          rw [hq, if_pos rfl] at hp
          have HP := Lib.hid hp
          have hX := HX.out
          rw [hq, if_pos rfl] at hX
          have HX := Lib.hid hX
          clear hX
          have HQ := Lib.hid hq
          clear hq hp
          have htl := HPr.out.end_.tail (isT_kind HQ.out)
          have HTL := Lib.hid htl
          clear htl
          go_wp2_with (go_at_call 38; refine stopAt ?_)
          unfold Hid
          refine (begins_at g t l'.tail 0 [wSELECT, wINSERT, wUPDATE, wDELETE] _ HP.out).mono ?_
          rintro e w5 ⟨rfl, hS⟩
          have hp := HP.out.keep hS
          have hS := hS.mono (S' := fun q => q ≠ g) fun _ _ _ => trivial
          have hSz := hS.size
          have HR := Lib.hid (HR.out.keep hS (by omega))
          have HRR := Lib.hid (HRR.out.keep hS (by omega))
          have HOV := Lib.hid (HOV.out.keep stK hS fun q hq _ _ => by omega)
          have HS := Lib.hid (HS.out.trans hS)
          have HP := Lib.hid hp
          clear hp hS
          cases hb : startsT l'.tail
          · have hX := HX.out
            rw [hb, if_neg (by simp)] at hX
            have HX := Lib.hid hX
            have hb2 : beginsT [wSELECT, wINSERT, wUPDATE, wDELETE] l'.tail = false := hb
            rw [hb2]
            clear hX hb hb2
            have hX := HX.out
            rw [thenT_ok] at hX
            have HX := Lib.hid hX
            clear hX
            go_wp2
            go_meet
            case rel => exact ⟨_, A, c, acc, l'.tail, rfl, HX.out, HOV.out, HR.out, HP.out, HRR.out, HS.out⟩
          · have hX := HX.out
            rw [hb, if_pos rfl] at hX
            have HX := Lib.hid hX
            have hb2 : beginsT [wSELECT, wINSERT, wUPDATE, wDELETE] l'.tail = true := hb
            rw [hb2]
            clear hX hb hb2
            have hr := HR.out
            have c2_ := hr.cell 2
            simp only [List.getElem?_cons_zero, List.getElem?_cons_succ] at c2_
            clear hr
            by_cases h8 : acc.length = 8
            · have e8 : ((acc.length : Int) == 8) = true := is_eq h8
              have hX := HX.out
              rw [if_pos h8] at hX
              have HX := Lib.hid hX
              clear hX h8
              go_wp2_with (go_at_call 39; refine stopAt ?_)
              unfold Hid
              refine (wrong_any g t l'.tail 0 3 _ HP.out).mono ?_
              rintro e w6 ⟨rfl, hE⟩
              have hq : DoP g t 0 X (LtG w.heap.size) w (.panicked [{ v := failV (hdT (l'.tail)).1 3, recovered := false }]) w6 := by
                rw [HX.out]
                exact ⟨rfl, HS.out.trans hE⟩
              exact ⟨rfl, hq⟩
            · have e8 : ((acc.length : Int) == 8) = false := no_k h8
              have hX := HX.out
              rw [if_neg h8, then_assoc] at hX
              have HX := Lib.hid hX
              clear hX h8
              go_upto_region 5 with (fail)
              obtain ⟨x, hxe⟩ : ∃ x, x = stmtT l'.tail := ⟨_, rfl⟩
              have Hxe := Lib.hid hxe
              have hX := HX.out
              rw [← hxe] at hX
              have HXr : Hid (∀ p, x = .error p → X = .error p) := Lib.hid fun p hp => by rw [hX, hp]; rfl
              have HXk : Hid (x = .ok (okA Stm.zero x, leftA x) → X = thenT (stmtsT k' (acc ++ [okA Stm.zero x]) (leftA x)) lotF) := Lib.hid fun hp => by
                rw [hX]
                conv => lhs; rw [hp]
                rfl
              have HS3 := HS
              have HO := HOV
              have HGw := Lib.hid HR.out.lt
              have HLEN : Hid (acc.length ≤ 1000000) := Lib.hid (by have := HAL.out; omega)
              have hAS : ∀ U, AppG stCsP 15 44 StR g t 0 BB gs 25 (.slice A acc.length c) acc (okA Stm.zero x) (fun z => [.int .i64 0, .int .i64 0, z]) (leftA x) l'.tail false false false U w5 := fun U => ⟨HP.out, fun _ => HR.out, fun _ => HO.out, fun h => (by cases h), fun h => (by cases h)⟩
              have HST : Hid (∀ U, AppG stCsP 15 44 StR g t 0 BB gs 25 (.slice A acc.length c) acc (okA Stm.zero x) (fun z => [.int .i64 0, .int .i64 0, z]) (leftA x) l'.tail false false false U w5.drew) := Lib.hid fun U => (hAS U).keep stK (Same.refl _ _).drew
              have HOW : Hid (∀ q, some q = Value.ownBlock (.slice A acc.length c) → q < w5.heap.size) := Lib.hid fun q e => (HO.out.ge e).2.1
              clear hX hxe hAS
              refine wp_region_full_lit (T := TA g (gs) (.slice A acc.length c)) (L := [some (.eq (.pointer (some ⟨gs, 2, none⟩))), some (.eq (.slice A acc.length c)), some (.eq (pV g)), some (RuG stK g (BB) (gs) (.slice A acc.length c) hgB (fun u => stV u (okA Stm.zero x)) (okA Stm.zero x) (x = .ok (okA Stm.zero x, leftA x))), some (BsG stCsP 44 stK g (BB) (gs) (.slice A acc.length c) hgB ((okA Stm.zero x)) (x = .ok (okA Stm.zero x, leftA x))), some (ApA g (gs) (.slice A acc.length c) ((acc).length + 1) (x = .ok (okA Stm.zero x, leftA x))), some (.eq (.pointer (some ⟨gs, 2, none⟩))), none]) (fun f U W => AppG stCsP 15 44 StR g t 0 (BB) (gs) 25 (.slice A acc.length c) (acc) ((okA Stm.zero x)) (fun z => [.int .i64 0, .int .i64 0, z]) (leftA x) (l'.tail) (f 3) (f 5) (f 7) (U 5) W) (by kernel_rfl) (by kernel_rfl) (by rfl) rfl ?_ ?_ ?_
              · exact HST.out _
              · refine ⟨?_, ?_, ?_, ?_, ?_, ?_, ?_, ?_, trivial⟩
                · intro ac wc f hs hst hni hwt hdn hd hz hf hw K hK
                  generalize hU : valF _ ac = U at hst hK
                  have e0 : ac.eval (.tmp 3) = (pV gs) := hf 3 rfl
                  clear hd hz hf hw
                  simp only [Region.wanted, if_true, Oper.wp, execOp, resolve, List.map_toArray, List.map_cons, List.map_nil, Option.map_some, Option.map_none, e0]
                  go_simp
                  exact hK _ _ (fun _ => rfl) (Same.refl _ _) hst
                · intro ac wc f hs hst hni hwt hdn hd hz hf hw K hK
                  generalize hU : valF _ ac = U at hst hK
                  have e0 : ac.eval (.tmp 21) = (.pointer (some ⟨gs, 2, none⟩)) := hw 0 rfl
                  have h9 : f 7 = false := by
                    cases h : f 7 with
                    | false => rfl
                    | true =>
                      have q0 := hdn 7 5 rfl h
                      have q1 := hdn 5 1 rfl q0
                      rw [hni] at q1
                      cases q1
                  have hr_ := hst.2.1 h9
                  have m_ := hr_.cell 2
                  simp only [List.getElem?_cons_zero, List.getElem?_cons_succ] at m_
                  clear hr_
                  clear hd hz hf hw
                  simp only [Region.wanted, if_true, Oper.wp, execOp, resolve, List.map_toArray, List.map_cons, List.map_nil, Option.map_some, Option.map_none, e0]
                  go_simp
                  exact hK _ _ (fun _ => rfl) (Same.refl _ _) hst
                · intro ac wc f hs hst hni hwt hdn hd hz hf hw K hK
                  generalize hU : valF _ ac = U at hst hK
                  have e0 : ac.eval (.tmp 0) = (pV g) := hf 0 rfl
                  clear hd hz hf hw
                  simp only [Region.wanted, if_true, Oper.wp, execOp, resolve, List.map_toArray, List.map_cons, List.map_nil, Option.map_some, Option.map_none, e0]
                  go_simp
                  exact hK _ _ (fun _ => rfl) (Same.refl _ _) hst
                · intro ac wc f hs hst hni hwt hdn hd hz hf hw K hK
                  generalize hU : valF _ ac = U at hst hK
                  have e0 : ac.eval (.tmp 23) = (pV g) := hw 2 rfl
                  have Hdf := Lib.hid (show ac.defers = [] from hd)
                  have h7 : f 7 = false := by
                    cases h : f 7 with
                    | false => rfl
                    | true =>
                      have q0 := h
                      have q1 := hdn 7 5 rfl q0
                      have q2 := hdn 5 4 rfl q1
                      have q3 := hdn 4 3 rfl q2
                      rw [hni] at q3
                      cases q3
                  have h5 : f 5 = false := by
                    cases h : f 5 with
                    | false => rfl
                    | true =>
                      have q0 := h
                      have q1 := hdn 5 4 rfl q0
                      have q2 := hdn 4 3 rfl q1
                      rw [hni] at q2
                      cases q2
                  have hst2 : AppG stCsP 15 44 StR g t 0 (BB) (gs) 25 (.slice A acc.length c) (acc) ((okA Stm.zero x)) (fun z => [.int .i64 0, .int .i64 0, z]) (leftA x) (l'.tail) (false) (false) (false) (U 5) wc := by
                    have h := hst
                    simp only [hni, h5, h7] at h
                    exact h
                  have hps : PS wc g t (l'.tail) 0 := hst2.1
                  have HST2 := Lib.hid hst2
                  clear hd hz hf hw
                  simp only [Region.wanted, if_true, Oper.wp, execOp, resolve, List.map_toArray, List.map_cons, List.map_nil, Option.map_some, Option.map_none, e0]
                  go_simp
                  refine (stmt_any g t l'.tail wc hps).mono ?_
                  intro e wd h1
                  cases hx : stmtT l'.tail with
                  | error p =>
                    rw [hx] at h1
                    obtain ⟨rfl, hSp⟩ := h1
                    have hq : DoP g t 0 X (LtG w.heap.size) w (.panicked [{ v := failV p.1 p.2, recovered := false }]) wd := by
                      rw [HXr.out p (Hxe.out.trans hx)]
                      exact ⟨rfl, (HS3.out.trans' hs fun q hq h => ⟨h, by omega, fun e => by have := (HO.out.ge e).1; omega⟩).trans (hSp.mono fun q _ h => h)⟩
                    exact ⟨Hdf.out, hq⟩
                  | ok q =>
                    rw [hx] at h1
                    obtain ⟨v', rfl, ⟨u2, rfl, hex⟩, hp2, hS2⟩ := h1
                    have hxx : x = .ok (okA Stm.zero x, leftA x) := by rw [Hxe.out, hx]; rfl
                    have hx1 : okA Stm.zero x = q.1 := by rw [Hxe.out, hx]; rfl
                    have hx2 : leftA x = q.2 := by rw [Hxe.out, hx]; rfl
                    have hzc := hs.size
                    have hown := HST2.out.2.2.1 rfl
                    rw [← hx1] at hex
                    rw [← hx2] at hp2
                    refine hK _ _ (fun _ => ⟨u2, by rw [hx1], stK.mono hex fun k hk (h : wc.heap.size ≤ k) => ⟨⟨by have := HGw.out; omega, fun e => by have := (hown.ge e).2; omega⟩, by have := HGw.out; omega⟩, hxx⟩) (hS2.mono fun k hk h => h.1) ?_
                    show AppG stCsP 15 44 StR g t 0 (BB) (gs) 25 (.slice A acc.length c) (acc) ((okA Stm.zero x)) (fun z => [.int .i64 0, .int .i64 0, z]) (leftA x) (l'.tail) (true) (f 5) (f 7) (U 5) wd
                    rw [h5, h7]
                    exact AppG.call stK hgB hBG HST2.out hp2 hS2
                · intro ac wc f hs hst hni hwt hdn hd hz hf hw K hK
                  generalize hU : valF _ ac = U at hst hK
                  have p0 : (RuG stK g (BB) (gs) (.slice A acc.length c) hgB (fun u => stV u (okA Stm.zero x)) (okA Stm.zero x) (x = .ok (okA Stm.zero x, leftA x)) : SPT (TA g (gs) (.slice A acc.length c))).p (ac.eval (.tmp 24)) wc := hw 3 rfl
                  obtain ⟨u0, e0⟩ : ∃ u, ac.eval (.tmp 24) = u := ⟨_, rfl⟩
                  have v0 : U 3 = u0 := by rw [← hU]; exact e0
                  rw [e0] at p0
                  obtain ⟨u2, rfl, hex2, hxx⟩ := p0
                  obtain ⟨u2i, u2r, u2s, u2c⟩ := u2
                  obtain ⟨A1, c1, q1, -⟩ := LsR.form (show LsR itCs 7 itOk _ _ u2i (okA Stm.zero x).items from hex2.1)
                  subst q1
                  obtain ⟨A2, c2, q2, -⟩ := LsR.form (show LsR rwCs 1 rwOk _ _ u2r (okA Stm.zero x).rows from hex2.2.1)
                  subst q2
                  obtain ⟨A3, c3, q3, -⟩ := LsR.form (show LsR asCs 7 asOk _ _ u2s (okA Stm.zero x).sets from hex2.2.2.1)
                  subst q3
                  obtain ⟨A4, c4, q4, -⟩ := (show ExR _ _ u2c (okA Stm.zero x).cond from hex2.2.2.2).toL.form
                  subst q4
                  
                  have Hxx := Lib.hid hxx
                  have Hex2 := Lib.hid hex2
                  clear hxx hex2
                  clear hd hz hf hw
                  simp only [Region.wanted, if_true, Oper.wp, execOp, resolve, List.map_toArray, List.map_cons, List.map_nil, Option.map_some, Option.map_none, e0]
                  go_simp
                  have hzc := hs.size
                  have hsA := (Same.refl (fun _ => True) wc).alloc (.cells (stCsP ((⟨.slice A1 (okA Stm.zero x).items.length c1, .slice A2 (okA Stm.zero x).rows.length c2, .slice A3 (okA Stm.zero x).sets.length c3, .slice A4 (okA Stm.zero x).cond.args.length c4⟩ : SU), (okA Stm.zero x))).toArray 44)
                  have hsb : SB (BB) (gs) (.slice A acc.length c) wc.heap.size := ⟨⟨by have := HGw.out; omega, fun e => by have := HOW.out _ e; omega⟩, by have := HGw.out; omega⟩
                  exact hK _ _ (fun _ => ⟨_, _, rfl, Row.new wc 44 (stCsP ((⟨.slice A1 (okA Stm.zero x).items.length c1, .slice A2 (okA Stm.zero x).rows.length c2, .slice A3 (okA Stm.zero x).sets.length c3, .slice A4 (okA Stm.zero x).cond.args.length c4⟩ : SU), (okA Stm.zero x))), hsb, stK.keep Hex2.out (hsA.mono fun _ _ _ => trivial), Hxx.out⟩) ((Same.refl _ _).alloc _) (AppG.keep stK hst ((Same.refl _ _).alloc _))
                · intro ac wc f hs hst hni hwt hdn hd hz hf hw K hK
                  generalize hU : valF _ ac = U at hst hK
                  have e0 : ac.eval (.tmp 22) = (.slice A acc.length c) := hw 1 rfl
                  have p1 : (BsG stCsP 44 stK g (BB) (gs) (.slice A acc.length c) hgB ((okA Stm.zero x)) (x = .ok (okA Stm.zero x, leftA x)) : SPT (TA g (gs) (.slice A acc.length c))).p (ac.eval (.tmp 25)) wc := hw 4 rfl
                  obtain ⟨u1, e1⟩ : ∃ u, ac.eval (.tmp 25) = u := ⟨_, rfl⟩
                  have v1 : U 4 = u1 := by rw [← hU]; exact e1
                  rw [e1] at p1
                  have d4 : f 4 = true := hwt 4 rfl
                  have d3 : f 3 = true := hdn 4 3 rfl d4
                  have h7 : f 7 = false := by
                    cases h : f 7 with
                    | false => rfl
                    | true =>
                      have q0 := h
                      have q1 := hdn 7 5 rfl q0
                      rw [hni] at q1
                      cases q1
                  obtain ⟨b, u2, rfl, hrow, hb, hex2, hxx⟩ := p1
                  have hst2 : AppG stCsP 15 44 StR g t 0 (BB) (gs) 25 (.slice A acc.length c) (acc) ((okA Stm.zero x)) (fun z => [.int .i64 0, .int .i64 0, z]) (leftA x) (l'.tail) (true) (false) (false) (U 5) wc := by
                    have h := hst
                    simp only [hni, d3, h7] at h
                    exact h
                  have hzc := hs.size
                  refine step_appZ TSt stCsP_len (okG_K stK gs) rfl (.tmp 22) (.tmp 25) rfl (hst2.2.2.1 rfl).1 u2 ((okA Stm.zero x)) (stOne hex2) e0 e1 hrow hex2 (by have := HGw.out; omega) (by have := HLEN.out; omega) (by omega) ?_
                  intro v' wd hO hS2
                  have hK2 := hK v' wd (fun _ => ⟨by obtain ⟨A2, c2, h2, -, -⟩ := hO.form; exact ⟨A2, c2, by rw [h2, List.length_append]; rfl⟩, hxx⟩) (hS2.mono fun q _ h => h.2.2)
                  refine hK2 ?_
                  show AppG stCsP 15 44 StR g t 0 (BB) (gs) 25 (.slice A acc.length c) (acc) ((okA Stm.zero x)) (fun z => [.int .i64 0, .int .i64 0, z]) (leftA x) (l'.tail) (f 3) (true) (f 7) (v') wd
                  rw [d3, h7]
                  exact AppG.app HLB.out (by decide) hst2 hO hS2
                · intro ac wc f hs hst hni hwt hdn hd hz hf hw K hK
                  generalize hU : valF _ ac = U at hst hK
                  have e0 : ac.eval (.tmp 3) = (pV gs) := hf 3 rfl
                  clear hd hz hf hw
                  simp only [Region.wanted, if_true, Oper.wp, execOp, resolve, List.map_toArray, List.map_cons, List.map_nil, Option.map_some, Option.map_none, e0]
                  go_simp
                  exact hK _ _ (fun _ => rfl) (Same.refl _ _) hst
                · intro ac wc f hs hst hni hwt hdn hd hz hf hw K hK
                  generalize hU : valF _ ac = U at hst hK
                  have p0 : (ApA g (gs) (.slice A acc.length c) ((acc).length + 1) (x = .ok (okA Stm.zero x, leftA x)) : SPT (TA g (gs) (.slice A acc.length c))).p (ac.eval (.tmp 26)) wc := hw 5 rfl
                  obtain ⟨u0, e0⟩ : ∃ u, ac.eval (.tmp 26) = u := ⟨_, rfl⟩
                  have v0 : U 5 = u0 := by rw [← hU]; exact e0
                  rw [e0] at p0
                  have e1 : ac.eval (.tmp 27) = (.pointer (some ⟨gs, 2, none⟩)) := hw 6 rfl
                  have d5 : f 5 = true := hwt 5 rfl
                  have d4 : f 4 = true := hdn 5 4 rfl d5
                  have d3 : f 3 = true := hdn 4 3 rfl d4
                  obtain ⟨⟨A2, c2, rfl⟩, hxx⟩ := p0
                  have Hxx := Lib.hid hxx
                  have hst2 : AppG stCsP 15 44 StR g t 0 (BB) (gs) 25 (.slice A acc.length c) (acc) ((okA Stm.zero x)) (fun z => [.int .i64 0, .int .i64 0, z]) (leftA x) (l'.tail) (true) (true) (false) (.slice A2 ((acc).length + 1) c2) wc := by
                    have h := hst
                    rw [d3, d5, hni, v0] at h
                    exact h
                  have hr_ := hst2.2.1 rfl
                  have m_ := hr_.cell 2
                  simp only [List.getElem?_cons_zero, List.getElem?_cons_succ] at m_
                  have n_ := hr_.frozen 2
                  have zr := hr_.lt
                  have HST2 := Lib.hid hst2
                  clear hr_ hst2 hxx
                  clear hd hz hf hw
                  simp only [Region.wanted, if_true, Oper.wp, execOp, resolve, List.map_toArray, List.map_cons, List.map_nil, Option.map_some, Option.map_none, e0, e1]
                  go_simp
                  obtain ⟨k1, k2⟩ := AppG.store stK HLB.out hBG HST2.out 2 rfl
                  refine hK undef _ (fun h => (by cases h)) k2 ?_
                  show AppG stCsP 15 44 StR g t 0 (BB) (gs) 25 (.slice A acc.length c) (acc) ((okA Stm.zero x)) (fun z => [.int .i64 0, .int .i64 0, z]) (leftA x) (l'.tail) (f 3) (f 5) (true) (U 5) _
                  rw [d3, d5, v0]
                  exact k1
              · intro vs wR f hvl hvp hsR hst hfR
                rcases vs with _ | ⟨z0, _ | ⟨z1, _ | ⟨z2, _ | ⟨z3, _ | ⟨z4, _ | ⟨z5, _ | ⟨z6, _ | ⟨z7, _ | ⟨zz, zr⟩⟩⟩⟩⟩⟩⟩⟩⟩
                rotate_right 1
                · simp at hvl
                · simp at hvl
                · simp at hvl
                · simp at hvl
                · simp at hvl
                · simp at hvl
                · simp at hvl
                · simp at hvl
                · simp at hvl
                · obtain rfl : z0 = (.pointer (some ⟨gs, 2, none⟩)) := hvp 0 (by simp)
                  obtain rfl : z1 = (.slice A acc.length c) := hvp 1 (by simp)
                  obtain rfl : z2 = (pV g) := hvp 2 (by simp)
                  have hru : (RuG stK g (BB) (gs) (.slice A acc.length c) hgB (fun u => stV u (okA Stm.zero x)) (okA Stm.zero x) (x = .ok (okA Stm.zero x, leftA x)) : SPT (TA g (gs) (.slice A acc.length c))).p z3 wR := hvp 3 (by simp)
                  have hsb : (BsG stCsP 44 stK g (BB) (gs) (.slice A acc.length c) hgB ((okA Stm.zero x)) (x = .ok (okA Stm.zero x, leftA x)) : SPT (TA g (gs) (.slice A acc.length c))).p z4 wR := hvp 4 (by simp)
                  have hap : (ApA g (gs) (.slice A acc.length c) ((acc).length + 1) (x = .ok (okA Stm.zero x, leftA x)) : SPT (TA g (gs) (.slice A acc.length c))).p z5 wR := hvp 5 (by simp)
                  obtain rfl : z6 = (.pointer (some ⟨gs, 2, none⟩)) := hvp 6 (by simp)
                  clear hvl hvp
                  simp only [putAll, Act.put, List.setIfInBounds_toArray, List.set_cons_succ, List.set_cons_zero, List.take_succ_cons, List.take_zero, List.drop_succ_cons, List.drop_zero]
                  clear hru hsb
                  have hst := hst
                  rw [hfR 3, hfR 5, hfR 7] at hst
                  obtain ⟨⟨A9, c9, rfl⟩, hxx⟩ := hap
                  obtain ⟨k1, -, -, k2, k3⟩ := hst
                  have hp : PS wR g t (leftA x) 0 := k1
                  have HP9 := Lib.hid hp
                  have HO9 := Lib.hid (k2 rfl)
                  have HR9 := Lib.hid (k3 rfl)
                  have hfit := stmt_fit l'.tail HTL.out.1 _ _ (Hxe.out.symm.trans hxx)
                  have HX9 := Lib.hid (HXk.out hxx)
                  have HRR9 := Lib.hid (HRR.out.keep hsR ⟨by omega, by omega, fun e => by have := (HO.out.ge e).1; omega⟩)
                  have HS9 := Lib.hid (HS.out.trans' hsR fun q hq h => ⟨h, by omega, fun e => by have := (HO.out.ge e).1; omega⟩)
                  have hl1 : (leftA x).length ≤ k' := by have := hfit.2; have := HTL.out.2; have := HLK.out; omega
                  have hl2 : (acc ++ [okA Stm.zero x]).length + (leftA x).length ≤ 1000001 := by have := hfit.2; have := HTL.out.2; have := HAL.out; rw [List.length_append, List.length_singleton]; omega
                  have hl3 : (leftA x).length < l'.length := by have := hfit.2; have := HTL.out.2; omega
                  have hla := HP9.out.len
                  have hlb := HPr.out.len
                  have hlen : (acc ++ [okA Stm.zero x]).length = acc.length + 1 := by rw [List.length_append, List.length_singleton]
                  have HO9 : Hid (OwnG stCsP 15 44 StR wR BB gs (.slice A9 (acc ++ [okA Stm.zero x]).length c9) (acc ++ [okA Stm.zero x])) := Lib.hid (by rw [hlen]; exact HO9.out)
                  have HR9 : Hid (Row wR gs 25 [.int .i64 0, .int .i64 0, .slice A9 (acc ++ [okA Stm.zero x]).length c9]) := Lib.hid (by rw [hlen]; exact HR9.out)
                  clear k1 k2 k3 hp hxx hfit hlen
                  go_wp2
                  go_roundw
                  case rel => exact ⟨k', acc ++ [okA Stm.zero x], leftA x, A9, c9, HX9.out, hl1, hl2, HO9.out, HR9.out, HP9.out, HRR9.out, HS9.out⟩
                  case measure => omega
    case rest =>
      obtain ⟨W, A, c, ss, l2, rfl, hX, hov, hr, hp, hrr, hS⟩ := hcut
      have HX := Lib.hid hX
      have HOV := Lib.hid hov
      have HR := Lib.hid hr
      have HP := Lib.hid hp
      have HRR := Lib.hid hrr
      have HS := Lib.hid hS
      have hWz := hr.lt
      clear hX hov hr hp hrr hS
      go_wp2_with (go_at_call 37; refine stopAt ?_)
      unfold Hid
      refine (take_any g t l2 0 wAS _ HP.out).mono ?_
      rintro e wo ⟨rfl, hp, hS⟩
      have hSz := hS.size
      have HR := Lib.hid (HR.out.keep hS (by omega))
      have HRR := Lib.hid (HRR.out.keep hS (by omega))
      have HOV := Lib.hid (HOV.out.keep stK hS fun q hq _ _ => by omega)
      have HS := Lib.hid (HS.out.trans hS)
      have HP := Lib.hid hp
      clear hp hS
      have hX := HX.out
      unfold lotF asofT at hX
      have HX := Lib.hid hX
      clear hX
      go_upto_if 29 with (fail)
      go_cut [] from 29 to 39 (fun wx => ∃ (W : World) (md n : Int) (l3 : List PT), W = wx ∧ X = endF ⟨md, n, ss⟩ l3 ∧ OwnG stCsP 15 44 StR W BB gs (.slice A ss.length c) (ss) ∧ Row W gs 25 [.int .i64 md, .int .i64 n, .slice A ss.length c] ∧ PS W g t l3 0 ∧ Row W w.heap.size 25 [.int .i64 0, .int .i64 0, .slice none 0 0] ∧ Same (fun q => q ≠ g) w W)
      case first =>
        cases hq : isT wAS l2
        · have hp := HP.out
          rw [hq, if_neg (by simp)] at hp
          have HP := Lib.hid hp
          have hX := HX.out
          rw [hq, if_neg (by simp)] at hX
          have HX := Lib.hid hX
          clear hX
          have HQ := Lib.hid hq
          clear hq hp
          have hX := HX.out
          rw [thenT_ok] at hX
          have HX := Lib.hid hX
          clear hX
          go_wp2
          go_meet
          case rel => exact ⟨_, 0, 0, _, rfl, HX.out, HOV.out, HR.out, HP.out, HRR.out, HS.out⟩
        · have hp := HP.out
          rw [hq, if_pos rfl] at hp
          have HP := Lib.hid hp
          have hX := HX.out
          rw [hq, if_pos rfl] at hX
          have HX := Lib.hid hX
          clear hX
          have HQ := Lib.hid hq
          clear hq hp
          have hX := HX.out
          rw [then_assoc] at hX
          have HX := Lib.hid hX
          clear hX
          go_wp2_with (go_at_call 40; refine stopAt ?_)
          unfold Hid
          refine (must_at g t l2.tail 0 [wOF, wSYSTEM, wTIME] _ HP.out).mono ?_
          intro e wm hR_
          cases hx : mustT [wOF, wSYSTEM, wTIME] l2.tail with
          | error p =>
            rw [hx] at hR_
            obtain ⟨rfl, hE⟩ := hR_
            have hq : DoP g t 0 X (LtG w.heap.size) w (.panicked [{ v := failV p.1 p.2, recovered := false }]) wm := by
              rw [HX.out, hx]
              exact ⟨rfl, HS.out.trans hE⟩
            exact ⟨rfl, hq⟩
          | ok q =>
            obtain ⟨⟨⟩, l3⟩ := q
            rw [hx] at hR_
            obtain ⟨v, rfl, rfl, hp, hS⟩ := hR_
            have hX := HX.out
            rw [hx, thenT_ok] at hX
            have HX := Lib.hid hX
            clear hX hx
            have hSz := hS.size
            have HR := Lib.hid (HR.out.keep hS (by omega))
            have HRR := Lib.hid (HRR.out.keep hS (by omega))
            have HOV := Lib.hid (HOV.out.keep stK hS fun q hq _ _ => by omega)
            have HS := Lib.hid (HS.out.trans hS)
            have HP := Lib.hid hp
            clear hp hS
            have hr := HR.out
            have c_ := hr.cell 0
            simp only [List.getElem?_cons_zero, List.getElem?_cons_succ] at c_
            have f_ := hr.frozen 0
            have zr := hr.lt
            have hsz := size_set wm ⟨gs, 0, none⟩ (.int .i64 1)
            have hss : Same (fun q => q ≠ gs) wm (wm.setCell ⟨gs, 0, none⟩ (.int .i64 1)) := (Same.refl _ _).setCell (fun _ h => h rfl) _
            have HR : Hid (Row (wm.setCell ⟨gs, 0, none⟩ (.int .i64 1)) gs 25 [.int .i64 1, .int .i64 0, .slice A ss.length c]) := Lib.hid (hr.set_ 0 (.int .i64 1))
            have HP := Lib.hid (HP.out.keepB hss (by omega) (by omega) (by omega))
            have HRR := Lib.hid (HRR.out.keep hss (by omega))
            have HOV := Lib.hid (HOV.out.keep stK hss fun q _ hq _ => hq)
            have HS := Lib.hid (HS.out.trans' hss fun q hq _ => by omega)
            clear hr hss
            go_wp2_with (go_at_call 37; refine stopAt ?_)
            unfold Hid
            revert hsz HR HP HRR HOV HS
            generalize wm.setCell _ _ = wn
            intro hsz HR HP HRR HOV HS
            clear c_ f_ zr
            refine (take_any g t l3 0 wBOUND wn HP.out).mono ?_
            rintro e wb ⟨rfl, hp, hS⟩
            have hSz := hS.size
            have HR := Lib.hid (HR.out.keep hS (by omega))
            have HRR := Lib.hid (HRR.out.keep hS (by omega))
            have HOV := Lib.hid (HOV.out.keep stK hS fun q hq _ _ => by omega)
            have HS := Lib.hid (HS.out.trans hS)
            have HP := Lib.hid hp
            clear hp hS
            cases hq : isT wBOUND l3
            · have hp := HP.out
              rw [hq, if_neg (by simp)] at hp
              have HP := Lib.hid hp
              have hX := HX.out
              rw [hq, if_neg (by simp)] at hX
              have HX := Lib.hid hX
              clear hX
              have HQ := Lib.hid hq
              clear hq hp
              have hX := HX.out
              rw [then_assoc] at hX
              have HX := Lib.hid hX
              clear hX
              go_wp2_with (go_at_call 41; refine stopAt ?_)
              unfold Hid
              refine (int_any g t l3 0 _ HP.out).mono ?_
              intro e wi hR_
              cases hx : intT l3 with
              | error p =>
                rw [hx] at hR_
                obtain ⟨rfl, hE⟩ := hR_
                have hq : DoP g t 0 X (LtG w.heap.size) w (.panicked [{ v := failV p.1 p.2, recovered := false }]) wi := by
                  rw [HX.out, hx]
                  exact ⟨rfl, HS.out.trans hE⟩
                exact ⟨rfl, hq⟩
              | ok q =>
                obtain ⟨n, l4⟩ := q
                rw [hx] at hR_
                obtain ⟨v, rfl, rfl, hp, hS⟩ := hR_
                have hX := HX.out
                rw [hx, thenT_ok] at hX
                have HX := Lib.hid hX
                clear hX hx
                have hSz := hS.size
                have HR := Lib.hid (HR.out.keep hS (by omega))
                have HRR := Lib.hid (HRR.out.keep hS (by omega))
                have HOV := Lib.hid (HOV.out.keep stK hS fun q hq _ _ => by omega)
                have HS := Lib.hid (HS.out.trans hS)
                have HP := Lib.hid hp
                clear hp hS
                have hX := HX.out
                rw [thenT_ok] at hX
                have HX := Lib.hid hX
                clear hX
                have hr := HR.out
                have c_ := hr.cell 1
                simp only [List.getElem?_cons_zero, List.getElem?_cons_succ] at c_
                have f_ := hr.frozen 1
                have zr := hr.lt
                have hsz := size_set wi ⟨gs, 1, none⟩ (.int .i64 (n : Nat))
                have hss : Same (fun q => q ≠ gs) wi (wi.setCell ⟨gs, 1, none⟩ (.int .i64 (n : Nat))) := (Same.refl _ _).setCell (fun _ h => h rfl) _
                have HR : Hid (Row (wi.setCell ⟨gs, 1, none⟩ (.int .i64 (n : Nat))) gs 25 [.int .i64 1, .int .i64 n, .slice A ss.length c]) := Lib.hid (hr.set_ 1 (.int .i64 (n : Nat)))
                have HP := Lib.hid (HP.out.keepB hss (by omega) (by omega) (by omega))
                have HRR := Lib.hid (HRR.out.keep hss (by omega))
                have HOV := Lib.hid (HOV.out.keep stK hss fun q _ hq _ => hq)
                have HS := Lib.hid (HS.out.trans' hss fun q hq _ => by omega)
                clear hr hss
                go_wp2
                go_meet
                case rel => exact ⟨_, 1, n, _, rfl, HX.out, HOV.out, HR.out, HP.out, HRR.out, HS.out⟩
            · have hp := HP.out
              rw [hq, if_pos rfl] at hp
              have HP := Lib.hid hp
              have hX := HX.out
              rw [hq, if_pos rfl] at hX
              have HX := Lib.hid hX
              clear hX
              have HQ := Lib.hid hq
              clear hq hp
              have hr := HR.out
              have c_ := hr.cell 0
              simp only [List.getElem?_cons_zero, List.getElem?_cons_succ] at c_
              have f_ := hr.frozen 0
              have zr := hr.lt
              have hsz := size_set wb ⟨gs, 0, none⟩ (.int .i64 2)
              have hss : Same (fun q => q ≠ gs) wb (wb.setCell ⟨gs, 0, none⟩ (.int .i64 2)) := (Same.refl _ _).setCell (fun _ h => h rfl) _
              have HR : Hid (Row (wb.setCell ⟨gs, 0, none⟩ (.int .i64 2)) gs 25 [.int .i64 2, .int .i64 0, .slice A ss.length c]) := Lib.hid (hr.set_ 0 (.int .i64 2))
              have HP := Lib.hid (HP.out.keepB hss (by omega) (by omega) (by omega))
              have HRR := Lib.hid (HRR.out.keep hss (by omega))
              have HOV := Lib.hid (HOV.out.keep stK hss fun q _ hq _ => hq)
              have HS := Lib.hid (HS.out.trans' hss fun q hq _ => by omega)
              clear hr hss
              go_wp2_with (go_at_call 41; refine stopAt ?_)
              unfold Hid
              revert hsz HR HP HRR HOV HS
              generalize wb.setCell _ _ = wc2
              intro hsz HR HP HRR HOV HS
              clear c_ f_ zr
              have hX := HX.out
              rw [then_assoc] at hX
              have HX := Lib.hid hX
              clear hX
              refine (int_any g t l3.tail 0 _ HP.out).mono ?_
              intro e wi hR_
              cases hx : intT l3.tail with
              | error p =>
                rw [hx] at hR_
                obtain ⟨rfl, hE⟩ := hR_
                have hq : DoP g t 0 X (LtG w.heap.size) w (.panicked [{ v := failV p.1 p.2, recovered := false }]) wi := by
                  rw [HX.out, hx]
                  exact ⟨rfl, HS.out.trans hE⟩
                exact ⟨rfl, hq⟩
              | ok q =>
                obtain ⟨n, l4⟩ := q
                rw [hx] at hR_
                obtain ⟨v, rfl, rfl, hp, hS⟩ := hR_
                have hX := HX.out
                rw [hx, thenT_ok] at hX
                have HX := Lib.hid hX
                clear hX hx
                have hSz := hS.size
                have HR := Lib.hid (HR.out.keep hS (by omega))
                have HRR := Lib.hid (HRR.out.keep hS (by omega))
                have HOV := Lib.hid (HOV.out.keep stK hS fun q hq _ _ => by omega)
                have HS := Lib.hid (HS.out.trans hS)
                have HP := Lib.hid hp
                clear hp hS
                have hX := HX.out
                rw [thenT_ok] at hX
                have HX := Lib.hid hX
                clear hX
                have hr := HR.out
                have c_ := hr.cell 1
                simp only [List.getElem?_cons_zero, List.getElem?_cons_succ] at c_
                have f_ := hr.frozen 1
                have zr := hr.lt
                have hsz := size_set wi ⟨gs, 1, none⟩ (.int .i64 (n : Nat))
                have hss : Same (fun q => q ≠ gs) wi (wi.setCell ⟨gs, 1, none⟩ (.int .i64 (n : Nat))) := (Same.refl _ _).setCell (fun _ h => h rfl) _
                have HR : Hid (Row (wi.setCell ⟨gs, 1, none⟩ (.int .i64 (n : Nat))) gs 25 [.int .i64 2, .int .i64 n, .slice A ss.length c]) := Lib.hid (hr.set_ 1 (.int .i64 (n : Nat)))
                have HP := Lib.hid (HP.out.keepB hss (by omega) (by omega) (by omega))
                have HRR := Lib.hid (HRR.out.keep hss (by omega))
                have HOV := Lib.hid (HOV.out.keep stK hss fun q _ hq _ => hq)
                have HS := Lib.hid (HS.out.trans' hss fun q hq _ => by omega)
                clear hr hss
                go_wp2
                go_meet
                case rel => exact ⟨_, 2, n, _, rfl, HX.out, HOV.out, HR.out, HP.out, HRR.out, HS.out⟩
      case rest =>
        obtain ⟨W2, md, n, l3, rfl, hX, hov, hr, hp, hrr, hS⟩ := hcut
        unfold endF at hX
        obtain ⟨off, cc, hrow, hcc, hcm, hpos, t0, t1, t2, t3⟩ := hp.open_
        unfold maxLen at hcm
        have b0 := hrow.cell 0
        simp only [List.getElem?_cons_zero] at b0
        have hl0 : (0 : Int) < (l3.length : Int) := by omega
        have HX := Lib.hid hX
        have HOV := Lib.hid hov
        have HR := Lib.hid hr
        have HP := Lib.hid hp
        have HRR := Lib.hid hrr
        have HS := Lib.hid hS
        have hWz2 := hr.lt
        clear hX hov hr hp hrr hS hrow
        by_cases hb : (hdT l3).2.kind = 0
        · have hX := HX.out
          rw [if_pos hb] at hX
          have HX := Lib.hid hX
          rw [hb] at t0
          clear hX hb
          have rr := HRR.out
          have q0 := rr.cell 0
          have q1 := rr.cell 1
          have q2 := rr.cell 2
          simp only [List.getElem?_cons_zero, List.getElem?_cons_succ] at q0 q1 q2
          have x0 := rr.frozen 0
          have x1 := rr.frozen 1
          have x2 := rr.frozen 2
          have zr := rr.lt
          have hr := HR.out
          have y0 := hr.cell 0
          have y1 := hr.cell 1
          have y2 := hr.cell 2
          simp only [List.getElem?_cons_zero, List.getElem?_cons_succ] at y0 y1 y2
          clear hr
          obtain ⟨hD, hB, hC⟩ := fin_cs (cs := (ltCs (.slice A ss.length c) ⟨md, n, ss⟩)) HP.out zg3 zg4 zg5 rr
          have hI : LsR stCsP 15 StR (setsW W2 w.heap.size 0 (ltCs (.slice A ss.length c) ⟨md, n, ss⟩)) (fun q => w.heap.size ≤ q) (.slice A ss.length c) ss := ((HOV.out.ls stK stCsP_len).keep stK (hC.mono fun q _ (h : BB ≤ q) => by omega)).mono stK (by omega) fun q _ (h : BB ≤ q) => by omega
          have HI := Lib.hid hI
          have HD := Lib.hid hD
          have HB := Lib.hid hB
          have HS9 : Hid (Same (fun q => q ≠ g) w (setsW W2 w.heap.size 0 (ltCs (.slice A ss.length c) ⟨md, n, ss⟩))) := Lib.hid (Same.sets' (Nat.le_refl _) _ 0 HS.out)
          clear rr hD hB hC hI
          go_wp2
          refine bodyPost_ret (lot_results (u := .slice A ss.length c) (l := ⟨md, n, ss⟩) (show Row _ _ _ (ltCs (.slice A ss.length c) ⟨md, n, ss⟩) from HD.out) rfl) rfl ?_
          rw [HX.out]
          exact ⟨_, rfl, ⟨_, rfl, HI.out⟩, HB.out, HS9.out⟩
        · have hX := HX.out
          rw [if_neg hb] at hX
          have HX := Lib.hid hX
          clear hX
          generalize hkd : (hdT l3).2.kind = kd at t0 hb
          have e1 : ((kd : Int) == 0) = false := by simpa using fun h : (kd : Int) = 0 => hb (by omega)
          have e2 : ((kd : Int) != 0) = true := by simp [bne, e1]
          clear hkd hb
          go_wp2_with (go_at_call 39; refine stopAt ?_)
          unfold Hid
          refine (wrong_any g t l3 0 13 _ HP.out).mono ?_
          rintro e w6 ⟨rfl, hE⟩
          have hq : DoP g t 0 X (LtG w.heap.size) w (.panicked [{ v := failV (hdT (l3)).1 13, recovered := false }]) w6 := by
            rw [HX.out]
            exact ⟨rfl, HS.out.trans hE⟩
          exact ⟨rfl, hq⟩
theorem run_assert (v : Value) (w : World) : (Instr.typeAssert (.iface 57 v) 20 57 false).run Tryz.prog w = .ok v w := by
  simp [Instr.typeAssert, run_underlying Tryz.underlying57, Sem.run_bind, Sem.run_pure]
theorem catch_idle (p q r : Addr) (w : World) : CallsD Tryz.prog 23 #[.pointer (some p), .pointer (some q), .pointer (some r)] .returning w fun e u' w' => e = .returned (.tuple #[]) ∧ u' = .returning ∧ w' = w := by
  refine callsD_of_wpS Tryz.func23 rfl fun c₀ cs hu => ?_
  apply wpS_seq
  apply wpS_region
  simp [wpOpsS, go_sem, recoverD, hu, Tryz.ntmps23, Exit.thenS]
  apply wpS_seq
  apply wpS_region
  simp [wpOpsS, go_sem, Exit.thenS]
  refine wpS_cond (t := false) (by simp [Act.eval, Array.replicate]) ?_
  simp only [Bool.false_eq_true, if_false]
  refine wpS_of_wp (wp_skip ?_)
  cases c₀
  simp_all [bodyPostS, results, Tryz.results23]
theorem catch_panic (g : Nat) (pl e : Nat) (w : World) (hl : Row w g 25 [.int .i64 0, .int .i64 0, .slice none 0 0]) (hp : Row w (g + 1) 3 [.int .i64 0]) (x : Int) (he : Row w (g + 2) 26 [.int .i64 x]) :
    CallsD Tryz.prog 23 #[.pointer (some ⟨g, 0, none⟩), .pointer (some ⟨g + 1, 0, none⟩), .pointer (some ⟨g + 2, 0, none⟩)] (.panicking ({ v := failV pl e, recovered := false } :: [])) w fun en u' w' => en = .returned (.tuple #[]) ∧ u' = .panicking ({ v := failV pl e, recovered := true } :: []) ∧
      Row w' g 25 [.int .i64 0, .int .i64 0, .slice none 0 0] ∧ Row w' (g + 1) 3 [.int .i64 pl] ∧ Row w' (g + 2) 26 [.int .i64 e] ∧ Same (fun q => q < g) w w' := by
  refine callsD_of_wpS Tryz.func23 rfl fun c₀ cs hu => ?_
  apply wpS_seq
  apply wpS_region
  simp [wpOpsS, go_sem, recoverD, hu, Tryz.ntmps23, Exit.thenS, failV]
  have c0 := hl.cell 0
  have c1 := hl.cell 1
  have c2 := hl.cell 2
  have d0 := hp.cell 0
  have e0 := he.cell 0
  simp only [List.getElem?_cons_zero, List.getElem?_cons_succ] at c0 c1 c2 d0 e0
  have x0 := hl.frozen 0
  have x1 := hl.frozen 1
  have x2 := hl.frozen 2
  have y0 := hp.frozen 0
  have z0 := he.frozen 0
  have l0 := hl.lt
  have l1 := hp.lt
  have l2 := he.lt
  have HL := Lib.hid hl
  have HQ := Lib.hid hp
  have HE := Lib.hid he
  clear hl hp he
  apply wpS_seq
  apply wpS_region
  simp [wpOpsS, go_sem, Exit.thenS]
  refine wpS_cond (t := true) (by simp [Act.eval, Array.replicate]) ?_
  simp only [if_true]
  refine wpS_of_wp (Code.wp_mono (Q := fun e_1 a' w' => (e_1 = .normal ∨ e_1 = .ret) ∧ a'.defers = [] ∧ Row w' g 25 [.int .i64 0, .int .i64 0, .slice none 0 0] ∧ Row w' (g + 1) 3 [.int .i64 pl] ∧ Row w' (g + 2) 26 [.int .i64 e] ∧ Same (fun q => q < g) w w') ?_ ?_)
  · rintro e_1 a' w' ⟨h1, h2, h3⟩
    have hr : ∀ tmps : Array Value, (results Tryz.f23 tmps).run Tryz.prog w' = .ok (.tuple #[]) w' := fun _ => by simp [results, Tryz.results23]
    rcases h1 with rfl | rfl
    · exact ⟨h2, _, rfl, _, hr _, rfl, rfl, h3⟩
    · exact ⟨h2, _, rfl, _, hr _, rfl, rfl, h3⟩
  clear hu
  show Code.wp _ _ _
    { tmps := #[.pointer (some ⟨g, 0, none⟩), .pointer (some ⟨g + 1, 0, none⟩), .pointer (some ⟨g + 2, 0, none⟩), .iface 57 (.agg #[.int .i64 pl, .int .i64 e]), undef, .iface 57 (.agg #[.int .i64 pl, .int .i64 e]), .iface 57 (.agg #[.int .i64 pl, .int .i64 e]), .bool true, undef, undef, undef, undef, undef, undef, undef], defers := [] } w
  obtain ⟨Q, hQ⟩ : ∃ Q : Exit → Act → World → Prop, Q = fun e_1 a' w' => (e_1 = .normal ∨ e_1 = .ret) ∧ a'.defers = [] ∧ Row w' g 25 [.int .i64 0, .int .i64 0, .slice none 0 0] ∧ Row w' (g + 1) 3 [.int .i64 pl] ∧ Row w' (g + 2) 26 [.int .i64 e] ∧ Same (fun q => q < g) w w' := ⟨_, rfl⟩
  rw [← hQ]
  have HQQ := Lib.hid hQ
  clear hQ
  have hta := run_assert
  go_upto_region 3 with (fail)
  have hA := (Same.refl (fun _ => True) w).alloc (.cells #[.int .i64 (pl : Int), .int .i64 (e : Int)] 57)
  have hF := Row.new w 57 [.int .i64 (pl : Int), .int .i64 (e : Int)]
  have hS : Same (fun q => q < g) w (w.alloc (.cells #[.int .i64 (pl : Int), .int .i64 (e : Int)] 57)) := hA.mono fun _ _ _ => trivial
  have hl := HL.out.keep hA trivial
  have hp := HQ.out.keep hA trivial
  have he := HE.out.keep hA trivial
  have hz : (w.alloc (.cells #[.int .i64 (pl : Int), .int .i64 (e : Int)] 57)).heap.size = w.heap.size + 1 := by simp
  clear c0 c1 c2 d0 e0 x0 x1 x2 y0 z0 hA
  revert hF hS hl hp he hz
  show (Row (w.alloc (.cells #[.int .i64 (pl : Int), .int .i64 (e : Int)] 57)) _ _ _ → _)
  generalize w.alloc _ = wA
  intro hF hS hl hp he hz
  have c0 := hl.cell 0
  have c1 := hl.cell 1
  have c2 := hl.cell 2
  have d0 := hp.cell 0
  have e0 := he.cell 0
  have b0 := hF.cell 0
  have b1 := hF.cell 1
  simp only [List.getElem?_cons_zero, List.getElem?_cons_succ] at c0 c1 c2 d0 e0 b0 b1
  have x0 := hl.frozen 0
  have x1 := hl.frozen 1
  have x2 := hl.frozen 2
  have y0 := hp.frozen 0
  have z0 := he.frozen 0
  have hn : ¬ w.heap.size = g ∧ ¬ w.heap.size = g + 1 ∧ ¬ w.heap.size = g + 2 := by omega
  obtain ⟨n0, n1, n2⟩ := hn
  have HFIN : Hid (∀ W0 : World, Same (fun _ => True) wA W0 → ∀ W1, W1 = ((((W0.setCell ⟨g, 0, none⟩ (.int .i64 0)).setCell ⟨g, 1, none⟩ (.int .i64 0)).setCell ⟨g, 2, none⟩ (.slice none 0 0)).setCell ⟨g + 1, 0, none⟩ (.int .i64 (pl : Int))).setCell ⟨g + 2, 0, none⟩ (.int .i64 (e : Int)) → 
    Row W1 g 25 [.int .i64 0, .int .i64 0, .slice none 0 0] ∧ Row W1 (g + 1) 3 [.int .i64 pl] ∧ Row W1 (g + 2) 26 [.int .i64 e] ∧ Same (fun q => q < g) w W1) := Lib.hid (by
    intro W0 h0 W1 h1
    have s1 : Same (fun q => q ≠ g) W0 (((W0.setCell ⟨g, 0, none⟩ (.int .i64 0)).setCell ⟨g, 1, none⟩ (.int .i64 0)).setCell ⟨g, 2, none⟩ (.slice none 0 0)) := (((Same.refl _ _).setCell (fun _ h => h rfl) _).setCell (fun _ h => h rfl) _).setCell (fun _ h => h rfl) _
    have r1 := (((hl.keep h0 trivial).set_ 0 (.int .i64 0)).set_ 1 (.int .i64 0)).set_ 2 (.slice none 0 0)
    have p1 := (hp.keep h0 trivial).keep s1 (by omega)
    have e1 := (he.keep h0 trivial).keep s1 (by omega)
    revert s1 r1 p1 e1 h1
    generalize ((W0.setCell ⟨g, 0, none⟩ (.int .i64 0)).setCell ⟨g, 1, none⟩ (.int .i64 0)).setCell ⟨g, 2, none⟩ (.slice none 0 0) = Wa
    intro h1 s1 r1 p1 e1
    have s2 : Same (fun q => q ≠ g + 1) Wa (Wa.setCell ⟨g + 1, 0, none⟩ (.int .i64 (pl : Int))) := (Same.refl _ _).setCell (fun _ h => h rfl) _
    have r2 := r1.keep s2 (by omega)
    have p2 := p1.set_ 0 (.int .i64 (pl : Int))
    have e2 := e1.keep s2 (by omega)
    revert s2 r2 p2 e2 h1
    generalize Wa.setCell ⟨g + 1, 0, none⟩ (.int .i64 (pl : Int)) = Wb
    intro h1 s2 r2 p2 e2
    have s3 : Same (fun q => q ≠ g + 2) Wb (Wb.setCell ⟨g + 2, 0, none⟩ (.int .i64 (e : Int))) := (Same.refl _ _).setCell (fun _ h => h rfl) _
    subst h1
    exact ⟨r2.keep s3 (by omega), p2.keep s3 (by omega), e2.set_ 0 (.int .i64 (e : Int)), ((((hS.trans (h0.mono fun _ _ _ => trivial)).trans (s1.mono fun q _ (h : q < g) => by omega)).trans (s2.mono fun q _ (h : q < g) => by omega)).trans (s3.mono fun q _ (h : q < g) => by omega))⟩)
  clear hF hS hl hp he
  go_region
  obtain ⟨q1, q2, q3, q4⟩ := HFIN.out wA (Same.refl _ _) _ rfl
  rw [HQQ.out]
  exact ⟨.inl rfl, rfl, q1.keep (Same.refl (fun _ => True) _).drew trivial, q2.keep (Same.refl (fun _ => True) _).drew trivial, q3.keep (Same.refl (fun _ => True) _).drew trivial, q4.trans (Same.refl _ _).drew⟩
/-- What Parse answers. -/
def ParseP (r : LotM × Nat × Nat) (w : World) (e : Ending) (w' : World) : Prop :=
  ∃ u, e = .returned (.tuple #[ltV u r.1, .int .i64 r.2.1, .int .i64 r.2.2]) ∧ LtR w' (fun q => w.heap.size ≤ q) u r.1 ∧ Same (fun _ => True) w w'
theorem parse_results {W : World} {k : Nat} {u : Value} {l : LotM} {pl e : Int} (R : Row W k 25 (ltCs u l)) (P : Row W (k + 1) 3 [.int .i64 pl]) (E : Row W (k + 2) 26 [.int .i64 e]) {tmps : Array Value}
    (h1 : tmps.getD 2 undef = .pointer (some ⟨k, 0, none⟩)) (h2 : tmps.getD 3 undef = .pointer (some ⟨k + 1, 0, none⟩)) (h3 : tmps.getD 4 undef = .pointer (some ⟨k + 2, 0, none⟩)) :
    (results Tryz.f10 tmps).run Tryz.prog W = .ok (.tuple #[ltV u l, .int .i64 pl, .int .i64 e]) W := by
  have d0 : W.cell? ⟨k, 0, none⟩ = some (.int .i64 l.mode) := R.cell 0
  have d1 : W.cell? ⟨k, 1, none⟩ = some (.int .i64 l.n) := R.cell 1
  have d2 : W.cell? ⟨k, 2, none⟩ = some u := R.cell 2
  have d3 : W.cell? ⟨k + 1, 0, none⟩ = some (.int .i64 pl) := P.cell 0
  have d4 : W.cell? ⟨k + 2, 0, none⟩ = some (.int .i64 e) := E.cell 0
  simp at h1 h2 h3
  simp [results, Tryz.results10, h1, h2, h3, go_sem, d0, d1, d2, d3, d4]
/-- A lot, a place and an error written behind each other. -/
theorem store_three {g : Nat} {W : World} {a0 b0 c0 x0 y0 : Value} (a b c x y : Value) (hl : Row W g 25 [a0, b0, c0]) (hp : Row W (g + 1) 3 [x0]) (he : Row W (g + 2) 26 [y0]) {W1 : World}
    (h1 : W1 = ((((W.setCell ⟨g, 0, none⟩ a).setCell ⟨g, 1, none⟩ b).setCell ⟨g, 2, none⟩ c).setCell ⟨g + 1, 0, none⟩ x).setCell ⟨g + 2, 0, none⟩ y) :
    Row W1 g 25 [a, b, c] ∧ Row W1 (g + 1) 3 [x] ∧ Row W1 (g + 2) 26 [y] ∧ Same (fun q => q < g ∨ g + 2 < q) W W1 := by
  have s1 : Same (fun q => q ≠ g) W (((W.setCell ⟨g, 0, none⟩ a).setCell ⟨g, 1, none⟩ b).setCell ⟨g, 2, none⟩ c) := (((Same.refl _ _).setCell (fun _ h => h rfl) _).setCell (fun _ h => h rfl) _).setCell (fun _ h => h rfl) _
  have r1 := ((hl.set_ 0 a).set_ 1 b).set_ 2 c
  have p1 := hp.keep s1 (by omega)
  have e1 := he.keep s1 (by omega)
  revert s1 r1 p1 e1 h1
  generalize ((W.setCell ⟨g, 0, none⟩ a).setCell ⟨g, 1, none⟩ b).setCell ⟨g, 2, none⟩ c = Wa
  intro h1 s1 r1 p1 e1
  have s2 : Same (fun q => q ≠ g + 1) Wa (Wa.setCell ⟨g + 1, 0, none⟩ x) := (Same.refl _ _).setCell (fun _ h => h rfl) _
  have r2 := r1.keep s2 (by omega)
  have p2 := p1.set_ 0 x
  have e2 := e1.keep s2 (by omega)
  revert s2 r2 p2 e2 h1
  generalize Wa.setCell ⟨g + 1, 0, none⟩ x = Wb
  intro h1 s2 r2 p2 e2
  have s3 : Same (fun q => q ≠ g + 2) Wb (Wb.setCell ⟨g + 2, 0, none⟩ y) := (Same.refl _ _).setCell (fun _ h => h rfl) _
  subst h1
  exact ⟨r2.keep s3 (by omega), p2.keep s3 (by omega), e2.set_ 0 y, ((s1.mono fun q _ h => by omega).trans (s2.mono fun q _ h => by omega)).trans (s3.mono fun q _ h => by omega)⟩
theorem lex_end {x : List UInt8} (h : (lexF x).1 = 0) : ∃ pre, (lexF x).2 = pre ++ [(x.length, tE)] ∧ (lexF x).2.length ≤ 2001 := by
  unfold lexF at h ⊢
  by_cases hl : 2000 < x.length
  · rw [if_pos hl] at h; cases h
  · rw [if_neg hl] at h ⊢
    by_cases h0 : (lexFrom 0 x).1 = 0
    · rw [if_pos h0] at h ⊢
      refine ⟨_, rfl, ?_⟩
      have := lexFrom_len x.length x 0 (Nat.le_refl _)
      simp only [List.length_append, List.length_singleton]
      omega
    · rw [if_neg h0] at h; exact absurd h h0
/-- Tokens that the call owns, ahead of a parser. -/
theorem PS.mk_ {w : World} {g B : Nat} {A : Option Addr} {c : Nat} {l pre : List PT} {p : Nat} (ho : OwnT w B (.slice A l.length c) l) (hl : l = pre ++ [(p, tE)]) (hn : l.length ≤ 2001) (hm : Mx w) (hB : 1 < B) (hg : Row w g 60 [.slice A l.length c, .int .i64 0]) (hbg : B ≤ g) :
    ∃ t, t ≠ g ∧ B ≤ t ∧ t < w.heap.size ∧ PS w g t l 0 := by
  rcases ownsRow_row ho with ⟨-, h0, -⟩ | ⟨t, cap, cur, hA, hb, hr, h1, h2, h3, h4⟩
  · rw [hl] at h0; simp at h0
  · injection hA with e1 e2 e3
    subst e1 e3
    have hne : t ≠ g := (hr.ne hg (by decide))
    refine ⟨t, hne, hb, hr.lt, ⟨⟨pre, p, hl⟩, by omega, by omega, hm, by omega, hne, by omega, 0, c, hg, h1, h2, fun j u hu => ?_⟩⟩
    rw [← h4] at hu
    rw [Nat.zero_add, hr.cell]
    rw [List.getElem?_take] at hu
    split at hu
    · exact hu
    · cases hu
set_option maxRecDepth 100000 in
set_option maxHeartbeats 4000000 in
theorem parse_any (s : ByteArray) (w : World) (hs : s.size ≤ 100000) (hm : Mx w) : Calls Tryz.prog 10 #[.string s] w (ParseP (parseF (bl s)) w) := by
  have hmf : ∀ (fn : Fn) (first cap : Array Value) (w : World), (Instr.makeFunc fn first cap).run Tryz.prog w = .ok (.func fn first cap) w := fun _ _ _ _ => rfl
  have hs0 := (((Same.refl (fun _ => True) w).alloc (.cells #[.int .i64 0, .int .i64 0, .slice none 0 0] 25)).alloc (.cells #[.int .i64 0] 3)).alloc (.cells #[.int .i64 0] 26)
  have hl := ((Row.new w 25 [.int .i64 0, .int .i64 0, .slice none 0 0]).keep ((Same.refl (fun _ => True) _).alloc (.cells #[.int .i64 0] 3)) trivial).keep ((Same.refl (fun _ => True) _).alloc (.cells #[.int .i64 0] 26)) trivial
  have hp := (Row.new (w.alloc (.cells #[.int .i64 0, .int .i64 0, .slice none 0 0] 25)) 3 [.int .i64 0]).keep ((Same.refl (fun _ => True) _).alloc (.cells #[.int .i64 0] 26)) trivial
  have he := Row.new ((w.alloc (.cells #[.int .i64 0, .int .i64 0, .slice none 0 0] 25)).alloc (.cells #[.int .i64 0] 3)) 26 [.int .i64 0]
  have hz : (((w.alloc (.cells #[.int .i64 0, .int .i64 0, .slice none 0 0] 25)).alloc (.cells #[.int .i64 0] 3)).alloc (.cells #[.int .i64 0] 26)).heap.size = w.heap.size + 3 := by simp
  have z1 : (w.alloc (.cells #[.int .i64 0, .int .i64 0, .slice none 0 0] 25)).heap.size = w.heap.size + 1 := by simp
  have z2 : ((w.alloc (.cells #[.int .i64 0, .int .i64 0, .slice none 0 0] 25)).alloc (.cells #[.int .i64 0] 3)).heap.size = w.heap.size + 2 := by simp
  rw [z1] at hp
  rw [z2] at he
  have hm0 := hm.keep hs0
  have hml := hm.lt
  clear z1 z2 hm
  obtain ⟨R, hR⟩ : ∃ R, R = lexF (bl s) := ⟨_, rfl⟩
  obtain ⟨X, hX⟩ : ∃ X, X = parseF (bl s) := ⟨_, rfl⟩
  rw [← hX]
  have HX := Lib.hid hX
  have HR := Lib.hid hR
  have HS := Lib.hid hs0
  have HL := Lib.hid hl
  have HP := Lib.hid hp
  have HE := Lib.hid he
  have HM := Lib.hid hm0
  clear hX hR hs0 hl hp he hm0
  go_enter_defers Tryz.func10, Tryz.ntmps10
  go_wp2_with (go_at_call 22; refine stopAt ?_)
  unfold Hid
  revert HS HL HP HE HM hz
  generalize ((w.alloc _).alloc _).alloc _ = w0
  intro hz HS HL HP HE HM
  refine (lexlex_any s w0 hs).mono ?_
  rintro e w1 ⟨v, rfl, hown, hS⟩
  rw [← HR.out] at hown ⊢
  obtain ⟨A, c, rfl, hc1, hc2⟩ := hown.form
  have HO := Lib.hid hown
  have HL := Lib.hid (HL.out.keep hS trivial)
  have HP := Lib.hid (HP.out.keep hS trivial)
  have HE := Lib.hid (HE.out.keep hS trivial)
  have HM := Lib.hid (HM.out.keep hS)
  have hz1 := hS.size
  have HS := Lib.hid (HS.out.trans hS)
  unfold maxLen at hc2
  clear hown hS
  have he := HE.out
  have c0 := he.cell 0
  simp only [List.getElem?_cons_zero] at c0
  have x0 := he.frozen 0
  have y0 := he.lt
  have hs2 : Same (fun q => q ≠ w.heap.size + 2) w1 (w1.setCell ⟨w.heap.size + 2, 0, none⟩ (.int .i64 (R.1 : Int))) := (Same.refl _ _).setCell (fun _ h => h rfl) _
  have hsz := size_set w1 ⟨w.heap.size + 2, 0, none⟩ (.int .i64 (R.1 : Int))
  have hE2 : Row (w1.setCell ⟨w.heap.size + 2, 0, none⟩ (.int .i64 (R.1 : Int))) (w.heap.size + 2) 26 [.int .i64 (R.1 : Int)] := he.set_ 0 (.int .i64 (R.1 : Int))
  have hL2 := HL.out.keep hs2 (by omega)
  have hP2 := HP.out.keep hs2 (by omega)
  have hM2 := HM.out.keepS hs2 (by omega)
  have hO2 := HO.out.keep hs2 fun k hk _ => by omega
  have hS2 := HS.out.trans' hs2 (S' := fun q => q ≠ w.heap.size + 2) fun q hq _ => by omega
  have HL2 := Lib.hid hL2
  have HP2 := Lib.hid hP2
  have HE2 := Lib.hid hE2
  have HM2 := Lib.hid hM2
  have HO2 := Lib.hid hO2
  have HS2 := Lib.hid hS2
  clear he hs2 hE2 hL2 hP2 hM2 hO2 hS2
  by_cases h0 : R.1 = 0
  · have e1 : ((R.1 : Int) != 0) = false := by rw [h0]; rfl
    have H0 := Lib.hid h0
    clear h0
    go_wp2_with (go_at_call 24; refine stopAt ?_)
    unfold Hid
    clear c0 x0 y0
    revert hsz HL2 HP2 HE2 HM2 HO2 HS2
    generalize w1.setCell _ _ = wE
    intro hsz HL2 HP2 HE2 HM2 HO2 HS2
    rw [← hsz, show w.heap.size + 1 + 1 = w.heap.size + 2 from rfl]
    obtain ⟨pre, hpre, hlen⟩ := lex_end (x := bl s) (by rw [← HR.out]; exact H0.out)
    rw [← HR.out] at hpre hlen
    have hg := Row.new wE 60 [.slice A R.2.length c, .int .i64 0]
    have hA := (Same.refl (fun _ => True) wE).alloc (.cells #[.slice A R.2.length c, .int .i64 0] 60)
    have hzE := HE2.out.lt
    have hzA : (wE.alloc (.cells #[.slice A R.2.length c, .int .i64 0] 60)).heap.size = wE.heap.size + 1 := by simp
    obtain ⟨t, t1, t2, t3, hps⟩ := PS.mk_ (B := w0.heap.size) (HO2.out.keepAll hA) hpre hlen (HM2.out.keep hA) (by omega) hg (by omega)
    have HL3 := Lib.hid (HL2.out.keep hA trivial)
    have HP3 := Lib.hid (HP2.out.keep hA trivial)
    have HE3 := Lib.hid (HE2.out.keep hA trivial)
    have HS3 := Lib.hid (HS2.out.trans (hA.mono fun _ _ _ => trivial))
    clear hg hpre hlen
    have hll := lot_any wE.heap.size t R.2 _ hps
    revert HL3 HP3 HE3 HS3 hzA
    revert hll
    show (Calls _ _ _ (wE.alloc (.cells #[.slice A R.2.length c, .int .i64 0] 60)) _ → _)
    clear hps hA
    generalize wE.alloc _ = wF
    intro hll hzA HL3 HP3 HE3 HS3
    refine hll.mono ?_
    intro e w5 hR_
    cases hx : lotP R.2 with
    | error p =>
      rw [hx] at hR_
      obtain ⟨rfl, hE⟩ := hR_
      obtain ⟨pl, er⟩ := p
      have hXF : X = (.zero, pl, er) := by
        rw [HX.out]
        unfold parseF
        rw [← HR.out, if_pos H0.out, hx]
      have HXF := Lib.hid hXF
      have hl := HL3.out.keep hE (by omega)
      have hp := HP3.out.keep hE (by omega)
      have he := HE3.out.keep hE (by omega)
      have HS5 := Lib.hid (HS3.out.trans' hE (S' := fun q => q ≠ wE.heap.size) fun q hq _ => by omega)
      refine leaves_cons (f := 23) (args := #[.pointer (some ⟨w.heap.size, 0, none⟩), .pointer (some ⟨w.heap.size + 1, 0, none⟩), .pointer (some ⟨w.heap.size + 2, 0, none⟩)]) (by simp) (by simp [go_sem]) ?_
      refine (catch_panic w.heap.size pl er w5 hl hp _ he).mono ?_
      rintro e' u' w6 ⟨rfl, rfl, q1, q2, q3, q4⟩
      have hq : ParseP X w (.returned (.tuple #[ltV (.slice none 0 0) .zero, .int .i64 (pl : Int), .int .i64 (er : Int)])) w6 := by
        rw [HXF.out]
        exact ⟨_, rfl, LsR.nil _ _, HS5.out.trans' q4 fun q hq _ => hq⟩
      exact ⟨_, parse_results (u := .slice none 0 0) (l := .zero) q1 q2 q3 rfl rfl rfl, hq⟩
    | ok q =>
      obtain ⟨L, l2⟩ := q
      rw [hx] at hR_
      have hXF : X = (L, 0, 0) := by
        rw [HX.out]
        unfold parseF
        rw [← HR.out, if_pos H0.out, hx]
      obtain ⟨v, rfl, ⟨u, rfl, hlt⟩, hps2, hE⟩ := hR_
      have HXF := Lib.hid hXF
      obtain ⟨Au, cu, rfl, -, -⟩ := (show LsR stCsP 15 StR _ _ u L.stmts from hlt).form
      have HL2 := Lib.hid (HL3.out.keep hE (by omega))
      have HP2 := Lib.hid (HP3.out.keep hE (by omega))
      have HE2 := Lib.hid (HE3.out.keep hE (by omega))
      have HS5 := Lib.hid (HS3.out.trans' hE (S' := fun q => q ≠ wE.heap.size) fun q hq _ => by omega)
      have HLT := Lib.hid hlt
      have hz5 := hE.size
      clear hlt hps2 hE hXF hx hll
      have hl := HL2.out
      have hp := HP2.out
      have he := HE2.out
      have c0 := hl.cell 0
      have c1 := hl.cell 1
      have c2 := hl.cell 2
      have c3 := hp.cell 0
      have c4 := he.cell 0
      simp only [List.getElem?_cons_zero, List.getElem?_cons_succ] at c0 c1 c2 c3 c4
      have x0 := hl.frozen 0
      have x1 := hl.frozen 1
      have x2 := hl.frozen 2
      have x3 := hp.frozen 0
      have x4 := he.frozen 0
      have zr := he.lt
      clear hl hp he
      have H3 := Lib.hid (fun W1 h1 => store_three (.int .i64 L.mode) (.int .i64 L.n) (.slice Au L.stmts.length cu) (.int .i64 0) (.int .i64 0) HL2.out HP2.out HE2.out (W1 := W1) h1)
      go_wp2
      obtain ⟨q1, q2, q3, q4⟩ := H3.out _ rfl
      refine leaves_cons (f := 23) (args := #[.pointer (some ⟨w.heap.size, 0, none⟩), .pointer (some ⟨w.heap.size + 1, 0, none⟩), .pointer (some ⟨w.heap.size + 2, 0, none⟩)]) (by simp) (by simp [go_sem]) ?_
      refine (catch_idle _ _ _ _).mono ?_
      rintro e' u' w6 ⟨rfl, rfl, rfl⟩
      refine ⟨_, parse_results (u := .slice Au L.stmts.length cu) (l := L) q1 q2 q3 rfl rfl rfl, ?_⟩
      rw [HXF.out]
      exact ⟨_, rfl, (LsR.keep stK HLT.out (q4.mono fun q hq (h : wF.heap.size ≤ q) => by omega)).mono stK (by omega) fun q hq (h : wF.heap.size ≤ q) => by omega, HS5.out.trans' q4 fun q hq _ => .inl hq⟩
  · have e1 : ((R.1 : Int) != 0) = true := by simpa using h0
    have hXF : X = (.zero, 0, R.1) := by
      rw [HX.out]
      unfold parseF
      rw [← HR.out, if_neg h0]
    have HXF := Lib.hid hXF
    clear h0 hXF
    go_upto_region 3 with (fail)
    rw [show w.heap.size + 1 + 1 = w.heap.size + 2 from rfl]
    clear c0 x0 y0
    revert hsz HL2 HP2 HE2 HM2 HO2 HS2
    generalize w1.setCell _ _ = wE
    intro hsz HL2 HP2 HE2 HM2 HO2 HS2
    have hl := HL2.out
    have hp := HP2.out
    have he := HE2.out
    have c0 := hl.cell 0
    have c1 := hl.cell 1
    have c2 := hl.cell 2
    have c3 := hp.cell 0
    have c4 := he.cell 0
    simp only [List.getElem?_cons_zero, List.getElem?_cons_succ] at c0 c1 c2 c3 c4
    have x0 := hl.frozen 0
    have x1 := hl.frozen 1
    have x2 := hl.frozen 2
    have x3 := hp.frozen 0
    have x4 := he.frozen 0
    have zr := he.lt
    clear hl hp he
    have H3 := Lib.hid (fun W1 h1 => store_three (.int .i64 0) (.int .i64 0) (.slice none 0 0) (.int .i64 0) (.int .i64 (R.1 : Int)) HL2.out HP2.out HE2.out (W1 := W1) h1)
    go_region
    go_wp2
    obtain ⟨q1, q2, q3, q4⟩ := H3.out _ rfl
    refine ⟨_, parse_results (u := .slice none 0 0) (l := .zero) (q1.keep (Same.refl (fun _ => True) _).drew trivial) (q2.keep (Same.refl (fun _ => True) _).drew trivial) (q3.keep (Same.refl (fun _ => True) _).drew trivial) rfl rfl rfl, ?_⟩
    rw [HXF.out]
    exact ⟨_, rfl, LsR.nil _ _, (HS2.out.trans' q4 fun q hq _ => .inl hq).trans (Same.refl _ _).drew⟩
def lexN : Nat → Nat → List UInt8 → Nat × List (Nat × Tok)
  | 0, _, _ => (99, [])
  | k + 1, i, s => if s.isEmpty then (0, []) else
    let r := tokF s
    if r.e = 0 then
      let y := lexN k (i + r.n) (s.drop r.n)
      if y.1 = 0 then (0, (if r.t.kind = 0 then [] else [(i, r.t)]) ++ y.2) else (y.1, [])
    else (r.e, [])
theorem lexN_eq : ∀ (k : Nat) (s : List UInt8) (i : Nat), s.length ≤ k → lexN (k + 1) i s = lexFrom i s
  | k, [], i, _ => by rw [lexFrom_nil]; rfl
  | 0, x :: s, i, h => by simp at h
  | k + 1, x :: s, i, h => by
    have hne : x :: s ≠ [] := by simp
    unfold lexN
    simp only [List.isEmpty_cons, Bool.false_eq_true, if_false]
    by_cases he : (tokF (x :: s)).e = 0
    · have hp := tokF_pos he
      rw [if_pos he, lexFrom_go hne he, lexN_eq k _ _ (by rw [List.length_drop]; omega)]
    · rw [if_neg he, lexFrom_err hne he]
def lexK (s : List UInt8) : Nat × List (Nat × Tok) :=
  if 2000 < s.length then (3, [])
  else let y := lexN (s.length + 1) 0 s; if y.1 = 0 then (0, y.2 ++ [(s.length, ⟨0, [], 0⟩)]) else (y.1, [])
theorem lexK_eq (s : List UInt8) : lexK s = lexF s := by
  unfold lexK lexF
  rw [lexN_eq _ s 0 (Nat.le_refl _)]
def parseK (s : List UInt8) : LotM × Nat × Nat :=
  let t := lexK s
  if t.1 = 0 then (match lotP t.2 with
    | .error (pl, e) => (.zero, pl, e)
    | .ok (l, _) => (l, 0, 0)) else (.zero, 0, t.1)
theorem parseK_eq (s : List UInt8) : parseK s = parseF s := by
  unfold parseK parseF
  rw [lexK_eq]
  rfl
/-- select * from t where k = 5 -/
def b1T : List UInt8 := [115, 101, 108, 101, 99, 116, 32, 42, 32, 102, 114, 111, 109, 32, 116, 32, 119, 104, 101, 114, 101, 32, 107, 32, 61, 32, 53]
/-- SELECT FROM t -/
def b2T : List UInt8 := [83, 69, 76, 69, 67, 84, 32, 70, 82, 79, 77, 32, 116]
def b1L : LotM := ⟨0, 0, [⟨1, [84], [⟨1, .zero⟩], [], [], true, .mk 3 [61] .zero [.mk 2 [75] .zero [], .mk 1 [] ⟨2, 5, []⟩ []], [], false, -1⟩]⟩
/-- SELECT * FROM T WHERE (K = 5) -/
def b1S : List UInt8 := [83, 69, 76, 69, 67, 84, 32, 42, 32, 70, 82, 79, 77, 32, 84, 32, 87, 72, 69, 82, 69, 32, 40, 75, 32, 61, 32, 53, 41]
theorem b1_read : parseF b1T = (b1L, 0, 0) := by
  have h : (sameLot (parseK b1T).1 b1L && decide ((parseK b1T).2 = (0, 0))) = true := by decide +kernel
  rw [Bool.and_eq_true, decide_eq_true_eq, sameLot_iff, parseK_eq] at h
  exact Prod.ext h.1 h.2
theorem b2_read : (parseF b2T).2 = (7, 13) := by
  rw [← parseK_eq]
  decide +kernel
theorem b1_may : mayLot b1L = true := by decide +kernel
theorem b1_print : printF b1L = (b1S, 0) := by
  have hd : digL 5 = [53] := by unfold digL; rw [dif_pos (by omega)]; rfl
  have hv : showL ⟨2, 5, []⟩ = [53] := by
    unfold showL
    rw [if_pos (by decide), if_neg (by decide), if_pos rfl]
    unfold intL
    rw [if_neg (by decide)]
    exact hd
  have hl : lotT b1L = b1S := by
    have e : lotT b1L = [83, 69, 76, 69, 67, 84, 32, 42, 32, 70, 82, 79, 77, 32, 84, 32, 87, 72, 69, 82, 69, 32, 40, 75, 32, 61, 32] ++ showL ⟨2, 5, []⟩ ++ [41] := by
      simp [lotT, modeT, showS, headS, tailS, b1L, joinT, showI, showE, showLs, showOp, wISNULL, wNOTNULL, wNOT, wNEG]
    rw [e, hv]
    rfl
  unfold printF
  rw [hl, if_pos ⟨b1_may, by decide⟩]
theorem b1_int : LotI b1L := by
  refine ⟨by decide, fun s hs => ?_⟩
  simp only [b1L, List.mem_cons, List.not_mem_nil, or_false] at hs
  subst hs
  refine ⟨fun x hx => ?_, fun r hr => by simp at hr, fun x hx => by simp at hx, ?_, by decide⟩
  · simp only [List.mem_cons, List.not_mem_nil, or_false] at hx
    subst hx
    exact ExI.zero
  · refine .mk (by decide) fun a ha => ?_
    simp only [List.mem_cons, List.not_mem_nil, or_false] at ha
    rcases ha with rfl | rfl
    · exact .mk (by decide) fun a ha => by cases ha
    · exact .mk (by decide) fun a ha => by cases ha
theorem parse_at (x : List UInt8) (w : World) (hs : x.length ≤ 100000) (hm : Mx w) : Calls Tryz.prog 10 #[.string (str x)] w (ParseP (parseF x) w) := by
  have := parse_any (str x) w (by rw [str_size]; exact hs) hm
  rwa [bl_str] at this
set_option maxRecDepth 100000 in
set_option maxHeartbeats 4000000 in
theorem begun_any (w : World) (hE : EnvT w) : Calls Tryz.prog 9 #[] w fun e w' => e = .returned (.bool true) ∧ Same (fun _ => True) w w' := by
  have hp1 := parse_at b1T w (by decide) hE.max
  rw [b1_read] at hp1
  obtain ⟨L, hL⟩ : ∃ L, L = b1L := ⟨_, rfl⟩
  rw [← hL] at hp1
  have HPr := Lib.hid (show printF L = (b1S, 0) by rw [hL]; exact b1_print)
  have HMy := Lib.hid (show mayLot L = true by rw [hL]; exact b1_may)
  have HLI := Lib.hid (show LotI L by rw [hL]; exact b1_int)
  have HE := Lib.hid hE
  clear hL hE
  go_enter Tryz.func9, Tryz.ntmps9
  go_wp2_with (go_at_call 10; refine stopAt ?_)
  unfold Hid
  refine (show Calls _ _ _ _ _ from hp1).mono ?_
  rintro e w1 ⟨u, rfl, hlt, hS⟩
  obtain ⟨A, c, rfl, -, -⟩ := (show LsR stCsP 15 StR _ _ u L.stmts from hlt).form
  have hA := (Same.refl (fun _ => True) w1).alloc (.cells #[.int .i64 L.mode, .int .i64 L.n, .slice A L.stmts.length c] 25)
  have hrow := Row.new w1 25 [.int .i64 L.mode, .int .i64 L.n, .slice A L.stmts.length c]
  have hl1 : LsR stCsP 15 StR (w1.alloc (.cells #[.int .i64 L.mode, .int .i64 L.n, .slice A L.stmts.length c] 25)) (fun _ => True) (.slice A L.stmts.length c) L.stmts := (LsR.mono stK (by omega) (show LsR stCsP 15 StR _ _ (.slice A L.stmts.length c) L.stmts from hlt) fun _ _ _ => trivial).keepAll stK hA
  have hs1 := hS.trans hA
  have he1 := HE.out.keepAll hs1
  clear hlt hS hA hp1
  go_wp2_with (go_at_call 16; refine stopAt ?_)
  unfold Hid
  revert hrow hl1 hs1 he1
  generalize w1.alloc _ = w2
  intro hrow hl1 hs1 he1
  have HR := Lib.hid hrow
  have HL := Lib.hid hl1
  have HS := Lib.hid hs1
  have HE := Lib.hid he1
  clear hrow hl1 hs1 he1
  refine (print_any L (.slice A L.stmts.length c) w2 HLI.out HL.out HE.out).mono ?_
  rw [HPr.out]
  rintro e w3 ⟨rfl, hS⟩
  have HR := Lib.hid (HR.out.keep hS trivial)
  have HL := Lib.hid (HL.out.keepAll stK hS)
  have HE := Lib.hid (HE.out.keepAll hS)
  have HS := Lib.hid (HS.out.trans hS)
  have c0 := HR.out.cell 0
  have c1 := HR.out.cell 1
  have c2 := HR.out.cell 2
  simp only [List.getElem?_cons_zero, List.getElem?_cons_succ] at c0 c1 c2
  have hp2 := parse_at b2T w3 (by decide) HE.out.max
  obtain ⟨r, hr⟩ : ∃ r, r = parseF b2T := ⟨_, rfl⟩
  have hr2 : r.2 = (7, 13) := by rw [hr]; exact b2_read
  rw [← hr] at hp2
  obtain ⟨M, at_, er⟩ := r
  obtain ⟨rfl, rfl⟩ : at_ = 7 ∧ er = 13 := by simpa using hr2
  clear hS hr hr2
  dsimp only
  go_wp2_with (go_at_call 10; refine stopAt ?_)
  unfold Hid
  refine (show Calls _ _ _ _ _ from hp2).mono ?_
  rintro e w4 ⟨u2, rfl, hlt2, hS⟩
  obtain ⟨A2, d2, rfl, -, -⟩ := (show LsR stCsP 15 StR _ _ u2 M.stmts from hlt2).form
  have hA := (Same.refl (fun _ => True) w4).alloc (.cells #[.int .i64 M.mode, .int .i64 M.n, .slice A2 M.stmts.length d2] 25)
  have hs2 := hS.trans hA
  have k0 := hs2.cell (p := ⟨w1.heap.size, 0, none⟩) trivial c0
  have k1 := hs2.cell (p := ⟨w1.heap.size, 1, none⟩) trivial c1
  have k2 := hs2.cell (p := ⟨w1.heap.size, 2, none⟩) trivial c2
  have HL := Lib.hid (HL.out.keepAll stK hs2)
  have HE := Lib.hid (HE.out.keepAll hs2)
  have HS := Lib.hid (HS.out.trans hs2)
  clear hlt2 hS hA hs2 c0 c1 c2 hp2
  go_wp2_with (go_at_call 18; refine stopAt ?_)
  unfold Hid
  refine (may_any L (.slice A L.stmts.length c) _ HL.out HE.out.max).mono ?_
  rw [HMy.out]
  rintro e w5 ⟨rfl, hS⟩
  have HS := Lib.hid (HS.out.trans hS)
  clear hS
  go_wp2
  go_ret
  exact ⟨rfl, HS.out⟩
def repT (p : List UInt8) : Nat → List UInt8
  | 0 => []
  | n + 1 => repT p n ++ p
theorem repT_len (p : List UInt8) : ∀ n, (repT p n).length = n * p.length
  | 0 => by simp [repT]
  | n + 1 => by rw [repT, List.length_append, repT_len p n, Nat.succ_mul]
def deepP : Nat → List UInt8
  | 0 => [32, 43, 32, 49]
  | 1 => [78, 79, 84, 32]
  | 2 => [44, 32, 65]
  | 3 => [44, 32, 40, 49, 41]
  | _ => [59, 32, 68, 69, 76, 69, 84, 69, 32, 70, 82, 79, 77, 32, 84]
def deepH : Nat → List UInt8
  | 0 => [83, 69, 76, 69, 67, 84, 32, 49]
  | 1 => [83, 69, 76, 69, 67, 84, 32]
  | 2 => [83, 69, 76, 69, 67, 84, 32, 65]
  | 3 => [73, 78, 83, 69, 82, 84, 32, 73, 78, 84, 79, 32, 84, 32, 86, 65, 76, 85, 69, 83, 32, 40, 49, 41]
  | _ => [68, 69, 76, 69, 84, 69, 32, 70, 82, 79, 77, 32, 84]
def deepE : Nat → List UInt8
  | 0 => [32, 70, 82, 79, 77, 32, 84]
  | 1 => [84, 82, 85, 69, 32, 70, 82, 79, 77, 32, 84]
  | 2 => [32, 70, 82, 79, 77, 32, 84]
  | _ => []
def deepT (k n : Nat) : List UInt8 := deepH k ++ repT (deepP k) n ++ deepE k
def mostN : Nat → Nat
  | 0 => 15
  | 1 => 15
  | 2 => 5
  | 3 => 15
  | _ => 7
def deepOkB (k n : Nat) : Bool := let r := parseK (deepT k n); (decide (r.2.2 = 0) == decide (n ≤ mostN k)) && (decide (r.2.2 = 0) || (decide (r.2.2 = 3) && decide (r.1.stmts.length = 0)))
theorem deep_all : ((List.range 5).all fun k => (List.range 24).all fun n => deepOkB k n) = true := by decide +kernel
theorem deep_ok {k n : Nat} (hk : k < 5) (hn : n < 24) : (n ≤ mostN k ∧ (parseF (deepT k n)).2.2 = 0) ∨ (¬ n ≤ mostN k ∧ (parseF (deepT k n)).2.2 = 3 ∧ (parseF (deepT k n)).1.stmts.length = 0) := by
  have h := deep_all
  simp only [List.all_eq_true, List.mem_range] at h
  have h := h k hk n hn
  unfold deepOkB at h
  simp only [parseK_eq, Bool.and_eq_true, Bool.or_eq_true, beq_iff_eq, decide_eq_true_eq] at h
  obtain ⟨h1, h2⟩ := h
  by_cases hm : n ≤ mostN k
  · rw [decide_eq_true hm, decide_eq_true_eq] at h1
    exact .inl ⟨hm, h1⟩
  · rw [decide_eq_false hm, decide_eq_false_iff_not] at h1
    rcases h2 with h2 | h2
    · exact absurd h2 h1
    · exact .inr ⟨hm, h2⟩
theorem rem_nat (n m : Int) (hm : 0 < m) : ∃ N : Nat, (N : Int) < m ∧ (n.tmod m + m).tmod m = (N : Int) ∧ -m < n.tmod m ∧ n.tmod m < m := by
  have h1 := Int.tmod_lt_of_pos n hm
  have h2 := Int.lt_tmod_of_pos n hm
  have h3 : (n.tmod m + m).tmod m = (n.tmod m + m) % m := Int.tmod_eq_emod_of_nonneg (by omega)
  have h4 := Int.emod_nonneg (n.tmod m + m) (show m ≠ 0 by omega)
  have h5 := Int.emod_lt_of_pos (n.tmod m + m) hm
  refine ⟨((n.tmod m + m) % m).toNat, by omega, by rw [h3]; omega, h2, h1⟩
set_option maxRecDepth 100000 in
set_option maxHeartbeats 8000000 in
theorem deep_walk (n k : Int) (w : World) (hn : I64 n) (hk : I64 k) (hE : EnvT w) : Calls Tryz.prog 3 #[.int .i64 n, .int .i64 k] w fun e w' => e = .returned (.bool true) ∧ Same (fun _ => True) w w' := by
  obtain ⟨N, hN, hN2, hN3, hN4⟩ := rem_nat n 24 (by omega)
  obtain ⟨K, hK, hK2, hK3, hK4⟩ := rem_nat k 5 (by omega)
  obtain ⟨rn, hrn⟩ : ∃ r, r = n.tmod 24 := ⟨_, rfl⟩
  obtain ⟨rk, hrk⟩ : ∃ r, r = k.tmod 5 := ⟨_, rfl⟩
  rw [← hrn] at hN2 hN3 hN4
  rw [← hrk] at hK2 hK3 hK4
  have ern := hrn.symm
  have erk := hrk.symm
  have HE := Lib.hid hE
  clear hrn hrk hE
  unfold I64 at hn hk
  go_enter Tryz.func3, Tryz.ntmps3
  go_wp2_with (go_at_call 9; refine stopAt ?_)
  unfold Hid
  refine (begun_any w HE.out).mono ?_
  rintro e w1 ⟨rfl, hS⟩
  have HE := Lib.hid (HE.out.keepAll hS)
  have HS := Lib.hid hS
  clear hS
  go_upto_block 0 with (fail)
  clear hN2 hN3 hN4 hK2 hK3 hK4 ern erk
  go_cut [5, 6] from 7 to 80 (fun v5 v6 wx => wx = w1 ∧ v5 = .string (str (deepT K N)) ∧ v6 = .int .i64 ((mostN K : Nat) : Int))
  case first =>
    obtain hKK | hKK | hKK | hKK | hKK : K = 0 ∨ K = 1 ∨ K = 2 ∨ K = 3 ∨ K = 4 := by omega
    · obtain rfl := hKK
      go_wp2
      go_loopw [5, 7] (fun v i wr => wr = w1 ∧ ∃ q : Nat, i = .int .i64 (q : Int) ∧ q ≤ N ∧ v = .string (str (repT [32, 43, 32, 49] q))) (fun _ i _ => N - (intOf i).toNat)
      case atStart => exact ⟨rfl, 0, rfl, Nat.zero_le _, rfl⟩
      case round =>
        obtain ⟨rfl, q, rfl, hq, rfl⟩ := hrel
        have x1 : (0 : Int) ≤ (q : Int) := by omega
        have hrl := repT_len [32, 43, 32, 49] q
        simp only [List.length_cons, List.length_nil] at hrl
        by_cases hqn : q < N
        · have x2 : (q : Int) < (N : Int) := by omega
          have a1 : ∀ w, (Op.stringOp .add (str (repT [32, 43, 32, 49] q)) ⟨#[32, 43, 32, 49]⟩).run Tryz.prog w = .ok (.string (str (repT [32, 43, 32, 49] (q + 1)))) w := fun w => add_str (repT [32, 43, 32, 49] q) [32, 43, 32, 49] (by simp only [List.length_cons, List.length_nil]; omega) w
          clear hrl
          go_wp2
          go_roundw
          case rel => exact ⟨(by first | rfl | trivial), q + 1, by go_num, by omega, rfl⟩
          case measure => simp [intOf]; omega
        · obtain rfl : q = N := by omega
          have a1 : ∀ w, (Op.stringOp .add ⟨#[83, 69, 76, 69, 67, 84, 32, 49]⟩ (str (repT [32, 43, 32, 49] q))).run Tryz.prog w = .ok (.string (str ([83, 69, 76, 69, 67, 84, 32, 49] ++ repT [32, 43, 32, 49] q))) w := fun w => add_str [83, 69, 76, 69, 67, 84, 32, 49] (repT [32, 43, 32, 49] q) (by simp only [List.length_cons, List.length_nil]; omega) w
          have a2 : ∀ w, (Op.stringOp .add (str ([83, 69, 76, 69, 67, 84, 32, 49] ++ repT [32, 43, 32, 49] q)) ⟨#[32, 70, 82, 79, 77, 32, 84]⟩).run Tryz.prog w = .ok (.string (str ([83, 69, 76, 69, 67, 84, 32, 49] ++ repT [32, 43, 32, 49] q ++ [32, 70, 82, 79, 77, 32, 84]))) w := fun w => add_str ([83, 69, 76, 69, 67, 84, 32, 49] ++ repT [32, 43, 32, 49] q) [32, 70, 82, 79, 77, 32, 84] (by rw [List.length_append]; simp only [List.length_cons, List.length_nil]; omega) w
          generalize hY : [83, 69, 76, 69, 67, 84, 32, 49] ++ repT [32, 43, 32, 49] q = Y at a1 a2
          have HB : Hid (Y ++ [32, 70, 82, 79, 77, 32, 84] = deepT 0 q) := Lib.hid (by rw [← hY]; rfl)
          clear hY
          clear hrl
          go_wp2
          go_meet
          case rel => exact ⟨rfl, by rw [HB.out], rfl⟩
    · obtain rfl := hKK
      go_wp2
      go_loopw [5, 8] (fun v i wr => wr = w1 ∧ ∃ q : Nat, i = .int .i64 (q : Int) ∧ q ≤ N ∧ v = .string (str (repT [78, 79, 84, 32] q))) (fun _ i _ => N - (intOf i).toNat)
      case atStart => exact ⟨rfl, 0, rfl, Nat.zero_le _, rfl⟩
      case round =>
        obtain ⟨rfl, q, rfl, hq, rfl⟩ := hrel
        have x1 : (0 : Int) ≤ (q : Int) := by omega
        have hrl := repT_len [78, 79, 84, 32] q
        simp only [List.length_cons, List.length_nil] at hrl
        by_cases hqn : q < N
        · have x2 : (q : Int) < (N : Int) := by omega
          have a1 : ∀ w, (Op.stringOp .add (str (repT [78, 79, 84, 32] q)) ⟨#[78, 79, 84, 32]⟩).run Tryz.prog w = .ok (.string (str (repT [78, 79, 84, 32] (q + 1)))) w := fun w => add_str (repT [78, 79, 84, 32] q) [78, 79, 84, 32] (by simp only [List.length_cons, List.length_nil]; omega) w
          clear hrl
          go_wp2
          go_roundw
          case rel => exact ⟨(by first | rfl | trivial), q + 1, by go_num, by omega, rfl⟩
          case measure => simp [intOf]; omega
        · obtain rfl : q = N := by omega
          have a1 : ∀ w, (Op.stringOp .add ⟨#[83, 69, 76, 69, 67, 84, 32]⟩ (str (repT [78, 79, 84, 32] q))).run Tryz.prog w = .ok (.string (str ([83, 69, 76, 69, 67, 84, 32] ++ repT [78, 79, 84, 32] q))) w := fun w => add_str [83, 69, 76, 69, 67, 84, 32] (repT [78, 79, 84, 32] q) (by simp only [List.length_cons, List.length_nil]; omega) w
          have a2 : ∀ w, (Op.stringOp .add (str ([83, 69, 76, 69, 67, 84, 32] ++ repT [78, 79, 84, 32] q)) ⟨#[84, 82, 85, 69, 32, 70, 82, 79, 77, 32, 84]⟩).run Tryz.prog w = .ok (.string (str ([83, 69, 76, 69, 67, 84, 32] ++ repT [78, 79, 84, 32] q ++ [84, 82, 85, 69, 32, 70, 82, 79, 77, 32, 84]))) w := fun w => add_str ([83, 69, 76, 69, 67, 84, 32] ++ repT [78, 79, 84, 32] q) [84, 82, 85, 69, 32, 70, 82, 79, 77, 32, 84] (by rw [List.length_append]; simp only [List.length_cons, List.length_nil]; omega) w
          generalize hY : [83, 69, 76, 69, 67, 84, 32] ++ repT [78, 79, 84, 32] q = Y at a1 a2
          have HB : Hid (Y ++ [84, 82, 85, 69, 32, 70, 82, 79, 77, 32, 84] = deepT 1 q) := Lib.hid (by rw [← hY]; rfl)
          clear hY
          clear hrl
          go_wp2
          go_meet
          case rel => exact ⟨rfl, by rw [HB.out], rfl⟩
    · obtain rfl := hKK
      go_wp2
      go_loopw [5, 9] (fun v i wr => wr = w1 ∧ ∃ q : Nat, i = .int .i64 (q : Int) ∧ q ≤ N ∧ v = .string (str (repT [44, 32, 65] q))) (fun _ i _ => N - (intOf i).toNat)
      case atStart => exact ⟨rfl, 0, rfl, Nat.zero_le _, rfl⟩
      case round =>
        obtain ⟨rfl, q, rfl, hq, rfl⟩ := hrel
        have x1 : (0 : Int) ≤ (q : Int) := by omega
        have hrl := repT_len [44, 32, 65] q
        simp only [List.length_cons, List.length_nil] at hrl
        by_cases hqn : q < N
        · have x2 : (q : Int) < (N : Int) := by omega
          have a1 : ∀ w, (Op.stringOp .add (str (repT [44, 32, 65] q)) ⟨#[44, 32, 65]⟩).run Tryz.prog w = .ok (.string (str (repT [44, 32, 65] (q + 1)))) w := fun w => add_str (repT [44, 32, 65] q) [44, 32, 65] (by simp only [List.length_cons, List.length_nil]; omega) w
          clear hrl
          go_wp2
          go_roundw
          case rel => exact ⟨(by first | rfl | trivial), q + 1, by go_num, by omega, rfl⟩
          case measure => simp [intOf]; omega
        · obtain rfl : q = N := by omega
          have a1 : ∀ w, (Op.stringOp .add ⟨#[83, 69, 76, 69, 67, 84, 32, 65]⟩ (str (repT [44, 32, 65] q))).run Tryz.prog w = .ok (.string (str ([83, 69, 76, 69, 67, 84, 32, 65] ++ repT [44, 32, 65] q))) w := fun w => add_str [83, 69, 76, 69, 67, 84, 32, 65] (repT [44, 32, 65] q) (by simp only [List.length_cons, List.length_nil]; omega) w
          have a2 : ∀ w, (Op.stringOp .add (str ([83, 69, 76, 69, 67, 84, 32, 65] ++ repT [44, 32, 65] q)) ⟨#[32, 70, 82, 79, 77, 32, 84]⟩).run Tryz.prog w = .ok (.string (str ([83, 69, 76, 69, 67, 84, 32, 65] ++ repT [44, 32, 65] q ++ [32, 70, 82, 79, 77, 32, 84]))) w := fun w => add_str ([83, 69, 76, 69, 67, 84, 32, 65] ++ repT [44, 32, 65] q) [32, 70, 82, 79, 77, 32, 84] (by rw [List.length_append]; simp only [List.length_cons, List.length_nil]; omega) w
          generalize hY : [83, 69, 76, 69, 67, 84, 32, 65] ++ repT [44, 32, 65] q = Y at a1 a2
          have HB : Hid (Y ++ [32, 70, 82, 79, 77, 32, 84] = deepT 2 q) := Lib.hid (by rw [← hY]; rfl)
          clear hY
          clear hrl
          go_wp2
          go_meet
          case rel => exact ⟨rfl, by rw [HB.out], rfl⟩
    · obtain rfl := hKK
      go_wp2
      go_loopw [5, 10] (fun v i wr => wr = w1 ∧ ∃ q : Nat, i = .int .i64 (q : Int) ∧ q ≤ N ∧ v = .string (str (repT [44, 32, 40, 49, 41] q))) (fun _ i _ => N - (intOf i).toNat)
      case atStart => exact ⟨rfl, 0, rfl, Nat.zero_le _, rfl⟩
      case round =>
        obtain ⟨rfl, q, rfl, hq, rfl⟩ := hrel
        have x1 : (0 : Int) ≤ (q : Int) := by omega
        have hrl := repT_len [44, 32, 40, 49, 41] q
        simp only [List.length_cons, List.length_nil] at hrl
        by_cases hqn : q < N
        · have x2 : (q : Int) < (N : Int) := by omega
          have a1 : ∀ w, (Op.stringOp .add (str (repT [44, 32, 40, 49, 41] q)) ⟨#[44, 32, 40, 49, 41]⟩).run Tryz.prog w = .ok (.string (str (repT [44, 32, 40, 49, 41] (q + 1)))) w := fun w => add_str (repT [44, 32, 40, 49, 41] q) [44, 32, 40, 49, 41] (by simp only [List.length_cons, List.length_nil]; omega) w
          clear hrl
          go_wp2
          go_roundw
          case rel => exact ⟨(by first | rfl | trivial), q + 1, by go_num, by omega, rfl⟩
          case measure => simp [intOf]; omega
        · obtain rfl : q = N := by omega
          have a1 : ∀ w, (Op.stringOp .add ⟨#[73, 78, 83, 69, 82, 84, 32, 73, 78, 84, 79, 32, 84, 32, 86, 65, 76, 85, 69, 83, 32, 40, 49, 41]⟩ (str (repT [44, 32, 40, 49, 41] q))).run Tryz.prog w = .ok (.string (str ([73, 78, 83, 69, 82, 84, 32, 73, 78, 84, 79, 32, 84, 32, 86, 65, 76, 85, 69, 83, 32, 40, 49, 41] ++ repT [44, 32, 40, 49, 41] q))) w := fun w => add_str [73, 78, 83, 69, 82, 84, 32, 73, 78, 84, 79, 32, 84, 32, 86, 65, 76, 85, 69, 83, 32, 40, 49, 41] (repT [44, 32, 40, 49, 41] q) (by simp only [List.length_cons, List.length_nil]; omega) w
          generalize hY : [73, 78, 83, 69, 82, 84, 32, 73, 78, 84, 79, 32, 84, 32, 86, 65, 76, 85, 69, 83, 32, 40, 49, 41] ++ repT [44, 32, 40, 49, 41] q = Y at a1
          have HB : Hid (Y = deepT 3 q) := Lib.hid (by rw [← hY]; unfold deepT; rw [show deepE 3 = [] from rfl, List.append_nil]; rfl)
          clear hY
          clear hrl
          go_wp2
          go_meet
          case rel => exact ⟨rfl, by rw [HB.out], rfl⟩
    · obtain rfl := hKK
      go_wp2
      go_loopw [5, 11] (fun v i wr => wr = w1 ∧ ∃ q : Nat, i = .int .i64 (q : Int) ∧ q ≤ N ∧ v = .string (str (repT [59, 32, 68, 69, 76, 69, 84, 69, 32, 70, 82, 79, 77, 32, 84] q))) (fun _ i _ => N - (intOf i).toNat)
      case atStart => exact ⟨rfl, 0, rfl, Nat.zero_le _, rfl⟩
      case round =>
        obtain ⟨rfl, q, rfl, hq, rfl⟩ := hrel
        have x1 : (0 : Int) ≤ (q : Int) := by omega
        have hrl := repT_len [59, 32, 68, 69, 76, 69, 84, 69, 32, 70, 82, 79, 77, 32, 84] q
        simp only [List.length_cons, List.length_nil] at hrl
        by_cases hqn : q < N
        · have x2 : (q : Int) < (N : Int) := by omega
          have a1 : ∀ w, (Op.stringOp .add (str (repT [59, 32, 68, 69, 76, 69, 84, 69, 32, 70, 82, 79, 77, 32, 84] q)) ⟨#[59, 32, 68, 69, 76, 69, 84, 69, 32, 70, 82, 79, 77, 32, 84]⟩).run Tryz.prog w = .ok (.string (str (repT [59, 32, 68, 69, 76, 69, 84, 69, 32, 70, 82, 79, 77, 32, 84] (q + 1)))) w := fun w => add_str (repT [59, 32, 68, 69, 76, 69, 84, 69, 32, 70, 82, 79, 77, 32, 84] q) [59, 32, 68, 69, 76, 69, 84, 69, 32, 70, 82, 79, 77, 32, 84] (by simp only [List.length_cons, List.length_nil]; omega) w
          clear hrl
          go_wp2
          go_roundw
          case rel => exact ⟨(by first | rfl | trivial), q + 1, by go_num, by omega, rfl⟩
          case measure => simp [intOf]; omega
        · obtain rfl : q = N := by omega
          have a1 : ∀ w, (Op.stringOp .add ⟨#[68, 69, 76, 69, 84, 69, 32, 70, 82, 79, 77, 32, 84]⟩ (str (repT [59, 32, 68, 69, 76, 69, 84, 69, 32, 70, 82, 79, 77, 32, 84] q))).run Tryz.prog w = .ok (.string (str ([68, 69, 76, 69, 84, 69, 32, 70, 82, 79, 77, 32, 84] ++ repT [59, 32, 68, 69, 76, 69, 84, 69, 32, 70, 82, 79, 77, 32, 84] q))) w := fun w => add_str [68, 69, 76, 69, 84, 69, 32, 70, 82, 79, 77, 32, 84] (repT [59, 32, 68, 69, 76, 69, 84, 69, 32, 70, 82, 79, 77, 32, 84] q) (by simp only [List.length_cons, List.length_nil]; omega) w
          generalize hY : [68, 69, 76, 69, 84, 69, 32, 70, 82, 79, 77, 32, 84] ++ repT [59, 32, 68, 69, 76, 69, 84, 69, 32, 70, 82, 79, 77, 32, 84] q = Y at a1
          have HB : Hid (Y = deepT 4 q) := Lib.hid (by rw [← hY]; unfold deepT; rw [show deepE 4 = [] from rfl, List.append_nil]; rfl)
          clear hY
          clear hrl
          go_wp2
          go_meet
          case rel => exact ⟨rfl, by rw [HB.out], rfl⟩
  case rest =>
    obtain ⟨rfl, rfl, rfl⟩ := hcut
    have hlt : (deepT K N).length ≤ 100000 := by
      unfold deepT
      rw [List.length_append, List.length_append, repT_len]
      have h1 : (deepH K).length ≤ 24 := by unfold deepH; split <;> simp
      have h2 : (deepP K).length ≤ 15 := by unfold deepP; split <;> simp
      have h3 : (deepE K).length ≤ 11 := by unfold deepE; split <;> simp
      have h4 : N * (deepP K).length ≤ 24 * 15 := Nat.mul_le_mul (by omega) h2
      omega
    have hp := parse_at (deepT K N) _ hlt HE.out.max
    have hok := deep_ok (k := K) (n := N) (by omega) (by omega)
    obtain ⟨r, hr⟩ : ∃ r, r = parseF (deepT K N) := ⟨_, rfl⟩
    obtain ⟨M, hM⟩ : ∃ M, M = mostN K := ⟨_, rfl⟩
    rw [← hr, ← hM] at hok
    rw [← hr] at hp
    rw [← hM]
    obtain ⟨L, pl, er⟩ := r
    clear hr hM hlt
    dsimp only at hok
    go_wp2_with (go_at_call 10; refine stopAt ?_)
    unfold Hid
    refine (show Calls _ _ _ _ _ from hp).mono ?_
    rintro e w2 ⟨u, rfl, hlt, hS⟩
    obtain ⟨A, c, rfl, -, -⟩ := (show LsR stCsP 15 StR _ _ u L.stmts from hlt).form
    have HS := Lib.hid (HS.out.trans (hS.trans ((Same.refl (fun _ => True) w2).alloc (.cells #[.int .i64 L.mode, .int .i64 L.n, .slice A L.stmts.length c] 25))))
    clear hS hlt hp
    rcases hok with ⟨h1, rfl⟩ | ⟨h1, rfl, h3⟩
    · have e1 : decide ((N : Int) ≤ (M : Int)) = true := i_le h1
      have e2 : decide (N ≤ M) = true := decide_eq_true h1
      clear h1
      go_wp2
      go_ret
      exact ⟨rfl, HS.out⟩
    · have e1 : decide ((N : Int) ≤ (M : Int)) = false := i_nle h1
      have e2 : decide (N ≤ M) = false := decide_eq_false h1
      obtain ⟨m, hm⟩ : ∃ m, m = L.stmts.length := ⟨_, rfl⟩
      dsimp only
      rw [← hm] at HS h3 ⊢
      subst h3
      clear h1 hm
      go_wp2
      go_ret
      exact ⟨rfl, HS.out⟩
end Go.Proofs.YtdfojghhpdkpfaaGreatDoor
namespace Go.Proofs.YtdfojghhpdkpfaaGreatDoor
open Go.RowKit Go.ChangeShapes Go.WideShapes Go.ChangeAt
theorem metH_plain (P : Program) (laid : List (String × DataW Unit)) (w : World) (h : (laid.all fun x => x.2.handleName?.isNone) = true) : laidMetH P laid w = laidMet P laid w := by
  have e : (laid.filter fun x => x.2.handleName?.isSome) = [] := List.filter_eq_nil_iff.2 fun x hx hs => by
    have := List.all_eq_true.1 h x hx
    cases hn : x.2.handleName? with
    | none => rw [hn] at hs; cases hs
    | some s => rw [hn] at this; cases this
  unfold laidMetH
  rw [e]
/-- What a law's walk has to show. -/
def LawWalkC (P : Program) (f : FuncId) (fn : Func) (L : List (String × DataW Unit)) (H : Type) (enc : TypeId × Value → H) : Prop :=
  ∀ (W : World) (base : Nat) (args : List Value) (ds : List (DataW H)) (ps : List MemPlace),
    (∀ (j : Nat) (t : TypeId) (v : Value), fn.params[j]? = some t → args[j]? = some v → Value.okWide P W .any base t v) →
    DataW.TrodAll enc P W 0 (fun _ => true) true fn.params.toList args ds ps → W.ShapedOpen P → laidMet P L W →
    Calls P f args.toArray W fun e W' => e = .returned (.bool true) ∧ Same (fun _ => True) W W'
theorem law_lift_c {C : Checked} {os : Os} {H : Type} {enc : TypeId × Value → H} (f : FuncId) (fn : Func) (s : ChangeSpec) (L : List (String × DataW Unit)) {conds : List PathCond} (started : os.Started)
    (own : ownKnob C.prog.godebug = none) (laid : laidOutB C.prog = true) (noInit : C.prog.inits.idxOf? f = none) (hfn : C.prog.funcs[f]? = some fn)
    (tb : TypeId) (hres : fn.resultTypes = #[tb]) (hbool : C.prog.underlying tb = some .bool) (hvars : s.vars = [])
    (hspec : ∀ ds : List (DataW H), ds.length = fn.params.size → s.fn H ds = { results := [.lit (.bool true)], args := ds })
    (hread : fn.params.toList.all (fun t => C.prog.readableRec t && decide (t < C.prog.types.size)) = true)
    (hL : (L.all fun x => x.2.handleName?.isNone) = true)
    (witness : ∃ (w : World) (tape : Tape) (i : Input), w.os = os ∧ (w.forCall tape i).Shaped C.prog ∧ i.vars = [] ∧ Input.okWide C.prog (w.forCall tape i) .any w.heap.size f i ∧
      ((s.pre enc C.prog fn conds false (w.forCall tape i).memory i.args ∧ laidMetH C.prog L (w.forCall tape i).memory) ∧ sizedMet enc C.prog fn (OpenSpec.ofChange s) false (w.forCall tape i).memory i.args) ∧ ({} : Assume).holds C.prog (lone (Frame.enter C.prog f i.args .normal) [] (w.forCall tape i)))
    (walk : LawWalkC C.prog f fn L H enc) :
    ReturnsInHanded {} C os f .any (fun w args => (s.pre enc C.prog fn conds false w args ∧ laidMetH C.prog L w) ∧ sizedMet enc C.prog fn (OpenSpec.ofChange s) false w args) (s.post enc C.prog fn false true false false) := by
  refine returnsInHanded_of_calls own started noInit witness ?_
  intro w tape i _ hsh _ hok hpre hholds
  obtain ⟨_, _, _, fn', hfn', _, _, _, _, hval⟩ := hok
  have e : fn' = fn := Option.some.inj (hfn'.symm.trans hfn)
  subst e
  obtain ⟨⟨⟨ds, gs, before, hw, hc⟩, hx⟩, hz⟩ := hpre
  have hW := DataW.Whole.of_heap (w' := w.forCall tape i) (by rfl) hw
  have hW' := hW
  rw [metH_plain _ _ _ hL] at hx
  have hl : laidMet C.prog L (w.forCall tape i) := laidMet.of_heap (w := (w.forCall tape i).memory) (by rfl) hx
  obtain ⟨p, q, hA, hV, rfl, hfz, hnd⟩ := hW
  rw [hvars] at hV
  obtain ⟨rfl, rfl⟩ := trodVars_none hV
  have hall : ∀ t ∈ fn'.params.toList, C.prog.readableRec t = true ∧ t < C.prog.types.size := fun t ht => by
    have := List.all_eq_true.1 hread t ht
    simpa using this
  have hlen := trodAll_length _ _ _ _ hA
  refine (walk (w.forCall tape i) w.heap.size i.args.toList ds p (fun j t v hj hv => hval j t v hj (by simpa using hv)) hA hsh hl).mono fun e W' ⟨he, hS⟩ => ?_
  have bel : Below (w.forCall tape i).heap.size (w.forCall tape i) W' := hS.below (Nat.le_refl _) (fun _ _ => trivial)
  subst he
  have hd : (ds ++ []).length = fn'.params.size := by have := hlen.2; simp at this ⊢; omega
  refine ChangeSpec.post_blind (W := w.forCall tape i) (W' := W') ?_
  refine ⟨ds, [], _, [], p, [], hW', ?_, ?_, ?_, bel.frame _, fun h => by cases h⟩
  · rw [hspec _ hd, hres]
    exact trodAll_mk1 (shut_bool hbool _)
  · rw [hspec _ hd]
    simpa using trodAll_below laid bel _ _ _ _ hall hA
  · rw [hvars, hspec _ hd]
    rfl
/-- The witness: the world in which the listed variables are laid. -/
theorem witness_c {H : Type} {enc : TypeId × Value → H} {C : Checked} {os : Os} {f : FuncId} {fn : Func} {s : ChangeSpec} {conds : List PathCond} (L : List (String × DataW Unit)) (hL : (L.all fun x => x.2.handleName?.isNone) = true) (args : Array Value) (fuel : Nat)
    (hv : ((World.laidAll C.prog os L).forCall (fun _ _ => 0) ⟨#[], args, []⟩).variablesZipB C.prog = true)
    (hr : (((World.laidAll C.prog os L).forCall (fun _ _ => 0) ⟨#[], args, []⟩).heap.toList.drop C.prog.globals.size).take ((begin C.prog (fun _ _ => 0) default).world.heap.size - C.prog.globals.size) =
      (begin C.prog (fun _ _ => 0) default).world.heap.toList.drop C.prog.globals.size)
    (hok : Input.okWideB C.prog ((World.laidAll C.prog os L).forCall (fun _ _ => 0) ⟨#[], args, []⟩) f ⟨#[], args, []⟩ = true)
    (hpre : s.preB enc C.prog fn conds false ((World.laidAll C.prog os L).forCall (fun _ _ => 0) ⟨#[], args, []⟩).memory args fuel = true)
    (hsz : s.sizedB enc C.prog fn false ((World.laidAll C.prog os L).forCall (fun _ _ => 0) ⟨#[], args, []⟩).memory args fuel = true)
    (hf : (World.holding C.prog os ⟨#[], #[], []⟩).layFits C.prog L [] = true)
    (hi : (World.holding C.prog os ⟨#[], #[], []⟩).layIfaces C.prog L (World.laidAll C.prog os L) = true) :
    ∃ (w : World) (tape : Tape) (i : Input), w.os = os ∧ (w.forCall tape i).Shaped C.prog ∧ i.vars = [] ∧ Input.okWide C.prog (w.forCall tape i) .any w.heap.size f i ∧
      ((s.pre enc C.prog fn conds false (w.forCall tape i).memory i.args ∧ laidMetH C.prog L (w.forCall tape i).memory) ∧ sizedMet enc C.prog fn (OpenSpec.ofChange s) false (w.forCall tape i).memory i.args) ∧ ({} : Assume).holds C.prog (lone (Frame.enter C.prog f i.args .normal) [] (w.forCall tape i)) :=
  ⟨World.laidAll C.prog os L, fun _ _ => 0, ⟨#[], args, []⟩, World.laidAll_os _ _ _, World.shaped_of_ZipB hv hr, (Input.okWide_of_okWideB (base := 0) hok).1, (Input.okWide_of_okWideB hok).2,
    ⟨⟨ChangeSpec.pre_of_preB hpre, by rw [metH_plain _ _ _ hL]; exact laidMet_laidAll _ hf hi⟩, sizedMet_of_sizedB hsz⟩, by
    simp only [Assume.holds]
    exact ⟨by simp, by simp, by simp, by simp, by simp⟩⟩
/-- A table anywhere on the list. -/
theorem tabIs_of_mem {P : Program} {W : World} {name : String} {k : IntKind} {zs : List Int} {l : List (String × DataW Unit)} {g : Nat} {t e : TypeId} {n : Nat}
    (hg : P.globalNamed name = some g) (hty : (P.globals[g]?).map (·.type) = some t) (ht : P.underlying t = some (.array n e)) (he : P.underlying e = some (.int k)) (hce : P.cellsOf e = 1) (hct : P.cellsOf t = n)
    (h : laidMet P l W) (hm : (name, Lib.tabData k zs) ∈ l) : Lib.TabIs P W name k zs := by
  obtain ⟨g', t', cs, fuel, p, hg', ht', hvar, hd⟩ := Lib.laidMet.reads h hm
  obtain rfl := Option.some.inj (hg.symm.trans hg')
  obtain rfl := Option.some.inj (hty.symm.trans ht')
  unfold Lib.TabIs
  rw [hvar, ← Lib.cells_of_tab ht he hce hct hd]
end Go.Proofs.YtdfojghhpdkpfaaGreatDoor
