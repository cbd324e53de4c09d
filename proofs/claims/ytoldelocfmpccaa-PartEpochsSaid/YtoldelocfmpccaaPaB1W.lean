/-
  PartEpochs: for all commands, whoever holds an elder epoch turns nothing: the walk.
-/
import Derived.Test.YtoldelocfmpccaaS1
import Derived.Test.YtoldelocfmpccaaS2
import Derived.Test.YtoldelocfmpccaaS3
import Derived.Test.YtoldelocfmpccaaS4
import Derived.Test.YtoldelocfmpccaaS5
import Derived.Test.YtoldelocfmpccaaS6
import Derived.Test.YtoldelocfmpccaaS7
import Derived.Test.YtoldelocfmpccaaS8
import Derived.Test.YtoldelocfmpccaaS9
import Derived.Test.YtoldelocfmpccaaS10
import Derived.Test.YtoldelocfmpccaaS11
import Derived.Test.YtoldelocfmpccaaS12
import Derived.Test.YtoldelocfmpccaaS13
import Derived.Test.YtoldelocfmpccaaS14
set_option linter.unusedSimpArgs false
set_option linter.unusedVariables false
namespace Go.Proofs.Ytoldelocfmpccaa
open Go.RowKit
set_option maxRecDepth 100000 in
set_option maxHeartbeats 8000000 in
theorem epochs_walk (v vs vw : Value) (l : List CmdM) (c : CmdM) (ep : Int) (w : World) (hv : CmdR w (fun k => k < w.heap.size) v l) (hsp : SpanR w (fun k => k < w.heap.size) vs c.spans) (hwr : WrR w (fun k => k < w.heap.size) vw c.writes) (hcl : CmdL c) (hep : -9223372036854775808 ≤ ep ∧ ep ≤ 9223372036854775807) :
    Calls Try.prog 18 #[v, cmdV vs vw c, .int .i64 ep] w fun e w' => e = .returned (.bool true) ∧ Same (fun _ => True) w w' := by
  obtain ⟨As, cs_, rfl, hs1, hs2⟩ := SpanR.form hsp
  obtain ⟨Aw, cw_, rfl, hw1, hw2⟩ := WrR.form hwr
  have Hsp := Lib.hid (hsp.mono (S' := fun _ => True) (by omega) fun _ _ _ => trivial)
  have Hwr := Lib.hid (hwr.mono (S' := fun _ => True) (by omega) fun _ _ _ => trivial)
  have Hcl := Lib.hid hcl
  unfold maxLen at hs2 hw2
  clear hsp hwr hcl
  obtain ⟨A, cl, rfl, hlc, hlm⟩ := hv.form
  have Hv := Lib.hid hv
  unfold maxLen at hlm
  clear hv
  have Hep := Lib.hid hep
  clear hep
  have r0 := Row.new w 81 (cmdCs (.slice As c.spans.length cs_) (.slice Aw c.writes.length cw_) c)
  have hS0 := (Same.refl (fun _ => True) w).alloc (.cells (cmdCs (.slice As c.spans.length cs_) (.slice Aw c.writes.length cw_) c).toArray 81)
  have B0 := Lib.hid r0
  have HS := Lib.hid hS0
  clear hS0 r0
  go_enter Try.func18, Try.ntmps18
  go_wp2_with (go_at_call 38; refine stopAt ?_)
  unfold Hid
  refine (begunp_any _).mono ?_
  rintro e w1 ⟨rfl, hS1⟩
  have B0 := Lib.hid (B0.out.keep hS1 trivial)
  have HS := Lib.hid (HS.out.trans hS1)
  clear hS1
  go_wp2_with (go_at_call 39; refine stopAt ?_)
  unfold Hid
  refine (lightk_any (.slice A l.length cl) l 40 _ w1 (Hv.out.keepAll HS.out) (by omega)).mono ?_
  rintro e w2 ⟨bl, rfl, hbl, hS1⟩
  have B0 := Lib.hid (B0.out.keep hS1 trivial)
  have HS := Lib.hid (HS.out.trans hS1)
  clear hS1
  cases bl
  · clear hbl
    go_wp2
    go_ret
    exact ⟨rfl, HS.out⟩
  obtain ⟨hlen, hlw⟩ := hbl rfl
  clear hbl
  have Hlw := Lib.hid hlw
  clear hlw
  have r_ := B0.out
  have c0 := r_.cell 0
  have c1 := r_.cell 1
  have c2 := r_.cell 2
  have c3 := r_.cell 3
  have c4 := r_.cell 4
  have c5 := r_.cell 5
  have c6 := r_.cell 6
  have c7 := r_.cell 7
  have c8 := r_.cell 8
  have c9 := r_.cell 9
  have c10 := r_.cell 10
  have c11 := r_.cell 11
  have c12 := r_.cell 12
  have c13 := r_.cell 13
  simp only [partCs, cmdCs, repCs, tryCs, stCs, wrCs, List.getElem?_cons_zero, List.getElem?_cons_succ] at c0 c1 c2 c3 c4 c5 c6 c7 c8 c9 c10 c11 c12 c13
  clear r_
  have HX := Lib.hid ((Same.refl (fun _ => True) w2).alloc (.cells (cmdCs (.slice As c.spans.length cs_) (.slice Aw c.writes.length cw_) c).toArray 81))
  go_wp2_with (go_at_call 39; refine stopAt ?_)
  unfold Hid
  refine (lightk_any _ [c] 1 _ _ (cmd_one (Row.new w2 81 (cmdCs (.slice As c.spans.length cs_) (.slice Aw c.writes.length cw_) c)) (RowR.keepAll Hsp.out (HS.out.trans HX.out)) (RowR.keepAll Hwr.out (HS.out.trans HX.out)) Hcl.out) (by omega)).mono ?_
  rintro e w3 ⟨bl, rfl, hbl, hS1⟩
  clear c0 c1 c2 c3 c4 c5 c6 c7 c8 c9 c10 c11 c12 c13
  have B0 := Lib.hid (B0.out.keep (HX.out.trans hS1) trivial)
  have HS := Lib.hid (HS.out.trans (HX.out.trans hS1))
  clear hS1 HX
  cases bl
  · clear hbl
    go_wp2
    go_ret
    exact ⟨rfl, HS.out⟩
  have hcw := (hbl rfl).2 c (List.mem_singleton_self _)
  clear hbl
  have HZ := Lib.hid (show w.heap.size < w3.heap.size from B0.out.lt)
  go_wp2_with (go_at_call 51; refine stopAt ?_)
  unfold Hid
  refine (run_any (.slice A l.length cl) l _ w3 (Hv.out.keepAll HS.out) (by omega) Hlw.out).mono ?_
  rintro e w4 ⟨va, rfl, hps, hS1⟩
  obtain ⟨Ap, cap, rfl, hp1, hp2⟩ := hps.form
  rw [states_len] at hps hp1 ⊢
  have HPS := Lib.hid hps
  have hS1s := hS1.size
  have B0 := Lib.hid (B0.out.keep hS1 trivial)
  have HS := Lib.hid (HS.out.trans hS1)
  clear hS1 hps
  unfold maxLen at hp2
  have HZ := Lib.hid (show w.heap.size < w3.heap.size ∧ w3.heap.size ≤ w4.heap.size from ⟨HZ.out, hS1s⟩)
  clear hS1s
  obtain ⟨ap, vc, vr, vd, rfl, hown, p0, hps0⟩ := PartsO.at_ HPS.out (i := l.length) (by rw [states_len]; omega)
  rw [states_at, List.take_length] at hown p0 hps0
  have hfin := fine_run Hlw.out l.length (Nat.le_refl _)
  have hepo := run_epoch (l := l) l.length (Nat.le_refl _)
  rw [List.take_length] at hfin hepo
  generalize runP l = p at *
  obtain ⟨P0, p0_, rfl, hq1, hq2⟩ := hown.cells.form
  obtain ⟨P1, p1_, rfl, hq3, hq4⟩ := OwnR.form hown.recs
  obtain ⟨P2, p2_, rfl, hq5, hq6⟩ := OwnR.form hown.done
  unfold maxLen at hq2 hq4 hq6
  have Hfin := Lib.hid hfin
  have x1 : (0 : Int) ≤ (l.length : Int) := by omega
  have x3 : ((l.length + 1 : Nat) : Int) - 1 = (l.length : Int) := by omega
  have x4 : (l.length : Int) < ((l.length + 1 : Nat) : Int) := by omega
  have p1 := hps0 1 (by omega) (by omega)
  have p2 := hps0 2 (by omega) (by omega)
  have p3 := hps0 3 (by omega) (by omega)
  have p4 := hps0 4 (by omega) (by omega)
  have p5 := hps0 5 (by omega) (by omega)
  have p6 := hps0 6 (by omega) (by omega)
  have p7 := hps0 7 (by omega) (by omega)
  have p8 := hps0 8 (by omega) (by omega)
  simp only [partCs, List.getElem?_cons_zero, List.getElem?_cons_succ] at p1 p2 p3 p4 p5 p6 p7 p8
  have g0 := Row.new w4 77 (partCs (.slice P0 p.cells.length p0_) (.slice P1 p.recs.length p1_) (.slice P2 p.done.length p2_) p)
  have gS := (Same.refl (fun _ => True) w4).alloc (.cells (partCs (.slice P0 p.cells.length p0_) (.slice P1 p.recs.length p1_) (.slice P2 p.done.length p2_) p).toArray 77)
  have HO := Lib.hid hown
  clear hps0 hown hfin
  go_wp2_with (with_reducible refine stopFA 1 rfl ?_)
  unfold Hid
  simp only [partCs] at g0 gS
  revert g0 gS
  generalize w4.alloc _ = w5
  intro g0 gS
  have HP := Lib.hid g0
  have B0 := Lib.hid (B0.out.keep gS trivial)
  have HO := Lib.hid (HO.out.keepAll gS)
  have HS := Lib.hid (HS.out.trans gS)
  clear g0 gS HPS x1 x3 x4
  clear p0 p1 p2 p3 p4 p5 p6 p7 p8
  have b_ := B0.out
  unfold cmdCs at b_
  have b1 := b_.cell 1
  simp only [List.getElem?_cons_zero, List.getElem?_cons_succ] at b1
  have bf := b_.frozen 1
  have bz := b_.lt
  go_wp2_with (with_reducible refine stopDst 33 rfl ?_)
  unfold Hid
  have hp5 := b_.set_ 1 (.int .i64 ep)
  have hS5 : Same (fun q => q ≠ w.heap.size) w5 (w5.setCell ⟨w.heap.size, 1, none⟩ (.int .i64 ep)) := (Same.refl _ _).setCell (fun _ h => h rfl) _
  have hS6 := HS.out.setCell (p := ⟨w.heap.size, 1, none⟩) (fun hp => by have hp : w.heap.size < w.heap.size := hp; omega) (.int .i64 ep)
  have hzb := HZ.out
  have hne : w4.heap.size ≠ w.heap.size := by omega
  clear b_ b1 bf bz
  revert hp5 hS5 hS6
  generalize w5.setCell _ _ = w6
  intro hp5 hS5 hS6
  have B0 := Lib.hid (show Row w6 w.heap.size 81 (cmdCs (.slice As c.spans.length cs_) (.slice Aw c.writes.length cw_) { c with epoch := ep }) from hp5)
  have HP := Lib.hid (HP.out.keep hS5 hne)
  have HO := Lib.hid (HO.out.keep hS5 fun k hk _ => by omega)
  have HS := Lib.hid hS6
  clear hp5 hS5 hS6 hne hzb
  have r_ := HP.out
  have p0 := r_.cell 0
  have p1 := r_.cell 1
  have p2 := r_.cell 2
  have p3 := r_.cell 3
  have p4 := r_.cell 4
  have p5 := r_.cell 5
  have p6 := r_.cell 6
  have p7 := r_.cell 7
  have p8 := r_.cell 8
  simp only [partCs, cmdCs, repCs, tryCs, stCs, wrCs, List.getElem?_cons_zero, List.getElem?_cons_succ] at p0 p1 p2 p3 p4 p5 p6 p7 p8
  clear r_
  have r_ := B0.out
  have c0 := r_.cell 0
  have c1 := r_.cell 1
  have c2 := r_.cell 2
  have c3 := r_.cell 3
  have c4 := r_.cell 4
  have c5 := r_.cell 5
  have c6 := r_.cell 6
  have c7 := r_.cell 7
  have c8 := r_.cell 8
  have c9 := r_.cell 9
  have c10 := r_.cell 10
  have c11 := r_.cell 11
  have c12 := r_.cell 12
  have c13 := r_.cell 13
  simp only [partCs, cmdCs, repCs, tryCs, stCs, wrCs, List.getElem?_cons_zero, List.getElem?_cons_succ] at c0 c1 c2 c3 c4 c5 c6 c7 c8 c9 c10 c11 c12 c13
  clear r_
  have ga := apply_any (100 * l.length) (fun _ => True) (.slice P0 p.cells.length p0_) (.slice P1 p.recs.length p1_) (.slice P2 p.done.length p2_) (.slice As c.spans.length cs_) (.slice Aw c.writes.length cw_) p { c with epoch := ep } w6 (HO.out.reads.all) (Hfin.out.toN (by omega)) Hfin.out.cells (by show 100 * l.length + c.writes.length ≤ 100000; omega) (by omega) (RowR.keepAll Hsp.out HS.out) (RowR.keepAll Hwr.out HS.out)
  obtain ⟨QQ, EQ, hQE⟩ : ∃ Q E, applyF p { c with epoch := ep } = (Q, E) := ⟨_, _, rfl⟩
  rw [hQE] at ga
  have HQQ := Lib.hid hQE
  clear hQE
  go_wp2_with (go_at_call 42; refine stopAt ?_)
  unfold Hid
  refine ga.mono ?_
  rintro e w7 ⟨vc, vr, vd, vp, rfl, ho, hp, hS⟩
  clear ga
  obtain ⟨Q0, q0_, rfl, -, hb0⟩ := ho.cells.form
  obtain ⟨Q1, q1_, rfl, -, hb1⟩ := OwnR.form ho.recs
  obtain ⟨Q2, q2_, rfl, -, hb2⟩ := OwnR.form ho.done
  obtain ⟨Q3, q3_, rfl, -, hb3⟩ := OwnP.form hp
  unfold maxLen at hb0 hb1 hb2 hb3
  have rp := (Row.new w7 77 (partCs (.slice Q0 QQ.cells.length q0_) (.slice Q1 QQ.recs.length q1_) (.slice Q2 QQ.done.length q2_) QQ)).keep ((Same.refl (fun _ => True) _).alloc (.cells (repCs (.slice Q3 EQ.pairs.length q3_) EQ).toArray 85)) trivial
  have rr := Row.new (w7.alloc (.cells (partCs (.slice Q0 QQ.cells.length q0_) (.slice Q1 QQ.recs.length q1_) (.slice Q2 QQ.done.length q2_) QQ).toArray 77)) 85 (repCs (.slice Q3 EQ.pairs.length q3_) EQ)
  rw [World.size_alloc] at rr
  have hS0 := ((Same.refl (fun _ => True) w7).alloc (.cells (partCs (.slice Q0 QQ.cells.length q0_) (.slice Q1 QQ.recs.length q1_) (.slice Q2 QQ.done.length q2_) QQ).toArray 77)).alloc (.cells (repCs (.slice Q3 EQ.pairs.length q3_) EQ).toArray 85)
  go_wp2_with (with_reducible refine stopDst 39 rfl ?_)
  unfold Hid
  simp only [partCs, repCs] at rp rr hS0
  revert rp rr hS0
  generalize (w7.alloc _).alloc _ = w8
  intro rp rr hS0
  have hsv := hS.trans hS0
  have B0 := Lib.hid (B0.out.keep hsv trivial)
  have HP := Lib.hid (HP.out.keep hsv trivial)
  have HO := Lib.hid (HO.out.keepAll hsv)
  have HS := Lib.hid (HS.out.trans hsv)
  have HPQ := Lib.hid rp
  have HRQ := Lib.hid rr
  have HOQ := Lib.hid ((ho.keepAll hS0).reads.all)
  clear ho hp hS rp rr hS0 hsv
  clear p0 p1 p2 p3 p4 p5 p6 p7 p8
  clear c0 c1 c2 c3 c4 c5 c6 c7 c8 c9 c10 c11 c12 c13
  have hx := HQQ.out
  by_cases hk : c.kind = 1
  · obtain ⟨hA, hB⟩ := epochs_lease (p := p) (c := { c with epoch := ep }) (by omega) hk
    rw [hx] at hA hB
    have k1 : (c.kind == 1) = true := by simp [hk]
    have Hk := Lib.hid hk
    clear hk hx
    by_cases he : ep = p.epoch + 1
    · obtain ⟨e1, e2, e3⟩ := hA he
      dsimp only at e1 e2 e3
      have k9 : (ep == p.epoch + 1) = true := by simp [he]
      have m0 : w8.cell? ⟨w7.heap.size + 1, 0, none⟩ = some (.int .i64 0) := by rw [← e1]; exact HRQ.out.cell 0
      have c0 : w8.cell? ⟨w.heap.size, 0, none⟩ = some (.int .i64 c.kind) := B0.out.cell 0
      have n0 : w8.cell? ⟨w7.heap.size, 0, none⟩ = some (.int .i64 ep) := by rw [← e2]; exact HPQ.out.cell 0
      have n1 : w8.cell? ⟨w7.heap.size, 1, none⟩ = some (.int .i64 c.node) := by rw [← e3]; exact HPQ.out.cell 1
      have p0 : w8.cell? ⟨w4.heap.size, 0, none⟩ = some (.int .i64 p.epoch) := HP.out.cell 0
      have c2 : w8.cell? ⟨w.heap.size, 2, none⟩ = some (.int .i64 c.node) := B0.out.cell 2
      clear hA hB he e1 e2 e3
      go_wp2
      go_ret
      exact ⟨rfl, HS.out⟩
    · obtain ⟨e1, e2⟩ := hB he
      dsimp only at e1 e2
      have k9 : (ep == p.epoch + 1) = false := by simp [he]
      have m0 : w8.cell? ⟨w7.heap.size + 1, 0, none⟩ = some (.int .i64 25) := by rw [← e1]; exact HRQ.out.cell 0
      have c0 : w8.cell? ⟨w.heap.size, 0, none⟩ = some (.int .i64 c.kind) := B0.out.cell 0
      subst QQ
      have HE1 := Lib.hid e1
      clear hA hB he e1
      have r_ := HP.out
      have p0 := r_.cell 0
      have p1 := r_.cell 1
      have p2 := r_.cell 2
      have p3 := r_.cell 3
      have p4 := r_.cell 4
      have p5 := r_.cell 5
      have p6 := r_.cell 6
      have p7 := r_.cell 7
      have p8 := r_.cell 8
      simp only [partCs, cmdCs, repCs, tryCs, stCs, wrCs, List.getElem?_cons_zero, List.getElem?_cons_succ] at p0 p1 p2 p3 p4 p5 p6 p7 p8
      clear r_
      have r_ := HPQ.out
      have n0 := r_.cell 0
      have n1 := r_.cell 1
      have n2 := r_.cell 2
      have n3 := r_.cell 3
      have n4 := r_.cell 4
      have n5 := r_.cell 5
      have n6 := r_.cell 6
      have n7 := r_.cell 7
      have n8 := r_.cell 8
      simp only [partCs, cmdCs, repCs, tryCs, stCs, wrCs, List.getElem?_cons_zero, List.getElem?_cons_succ] at n0 n1 n2 n3 n4 n5 n6 n7 n8
      clear r_
      go_wp2_with (go_at_call 44; refine stopAt ?_)
      unfold Hid
      refine (samepart_any _ _ _ _ _ _ p _ _ w8 (HO.out.reads.all) HOQ.out (Hfin.out.toN (by omega))).mono ?_
      rintro e w9 ⟨rfl, hSx⟩
      have HS := Lib.hid (HS.out.trans hSx)
      have HSx := Lib.hid hSx
      clear hSx
      have m0' : w9.cell? ⟨w7.heap.size + 1, 0, none⟩ = some (.int .i64 25) := by rw [← HE1.out]; exact (HRQ.out.keep HSx.out trivial).cell 0
      go_wp2
      go_ret
      exact ⟨rfl, HS.out⟩
  · obtain ⟨hA, hB⟩ := epochs_else (p := p) (c := { c with epoch := ep }) hk
    rw [hx] at hA hB
    have k1 : (c.kind == 1) = false := by simp [hk]
    have Hk := Lib.hid hk
    clear hk hx
    by_cases hor : p.epoch = 0 ∨ ep ≠ p.epoch
    · obtain ⟨e1, e2⟩ := hA hor
      dsimp only at e1 e2
      have m0 : w8.cell? ⟨w7.heap.size + 1, 0, none⟩ = some (.int .i64 25) := by rw [← e1]; exact HRQ.out.cell 0
      have c0 : w8.cell? ⟨w.heap.size, 0, none⟩ = some (.int .i64 c.kind) := B0.out.cell 0
      by_cases he : ep = p.epoch
      · have k9 : (ep != p.epoch) = false := by simp [he]
        have k8 : (p.epoch == 0) = true := by
          rcases hor with h | h
          · simp [h]
          · exact absurd he h
        subst QQ
        clear hA hB he e1 hor
        have r_ := HP.out
        have p0 := r_.cell 0
        have p1 := r_.cell 1
        have p2 := r_.cell 2
        have p3 := r_.cell 3
        have p4 := r_.cell 4
        have p5 := r_.cell 5
        have p6 := r_.cell 6
        have p7 := r_.cell 7
        have p8 := r_.cell 8
        simp only [partCs, cmdCs, repCs, tryCs, stCs, wrCs, List.getElem?_cons_zero, List.getElem?_cons_succ] at p0 p1 p2 p3 p4 p5 p6 p7 p8
        clear r_
        have r_ := HPQ.out
        have n0 := r_.cell 0
        have n1 := r_.cell 1
        have n2 := r_.cell 2
        have n3 := r_.cell 3
        have n4 := r_.cell 4
        have n5 := r_.cell 5
        have n6 := r_.cell 6
        have n7 := r_.cell 7
        have n8 := r_.cell 8
        simp only [partCs, cmdCs, repCs, tryCs, stCs, wrCs, List.getElem?_cons_zero, List.getElem?_cons_succ] at n0 n1 n2 n3 n4 n5 n6 n7 n8
        clear r_
        go_wp2_with (go_at_call 44; refine stopAt ?_)
        unfold Hid
        refine (samepart_any _ _ _ _ _ _ p _ _ w8 (HO.out.reads.all) HOQ.out (Hfin.out.toN (by omega))).mono ?_
        rintro e w9 ⟨rfl, hSx⟩
        have HS := Lib.hid (HS.out.trans hSx)
        have HSx := Lib.hid hSx
        clear hSx
        go_wp2
        go_ret
        exact ⟨rfl, HS.out⟩
      · have k9 : (ep != p.epoch) = true := by simp [he]
        subst QQ
        clear hA hB he e1 hor
        have r_ := HP.out
        have p0 := r_.cell 0
        have p1 := r_.cell 1
        have p2 := r_.cell 2
        have p3 := r_.cell 3
        have p4 := r_.cell 4
        have p5 := r_.cell 5
        have p6 := r_.cell 6
        have p7 := r_.cell 7
        have p8 := r_.cell 8
        simp only [partCs, cmdCs, repCs, tryCs, stCs, wrCs, List.getElem?_cons_zero, List.getElem?_cons_succ] at p0 p1 p2 p3 p4 p5 p6 p7 p8
        clear r_
        have r_ := HPQ.out
        have n0 := r_.cell 0
        have n1 := r_.cell 1
        have n2 := r_.cell 2
        have n3 := r_.cell 3
        have n4 := r_.cell 4
        have n5 := r_.cell 5
        have n6 := r_.cell 6
        have n7 := r_.cell 7
        have n8 := r_.cell 8
        simp only [partCs, cmdCs, repCs, tryCs, stCs, wrCs, List.getElem?_cons_zero, List.getElem?_cons_succ] at n0 n1 n2 n3 n4 n5 n6 n7 n8
        clear r_
        go_wp2_with (go_at_call 44; refine stopAt ?_)
        unfold Hid
        refine (samepart_any _ _ _ _ _ _ p _ _ w8 (HO.out.reads.all) HOQ.out (Hfin.out.toN (by omega))).mono ?_
        rintro e w9 ⟨rfl, hSx⟩
        have HS := Lib.hid (HS.out.trans hSx)
        have HSx := Lib.hid hSx
        clear hSx
        go_wp2
        go_ret
        exact ⟨rfl, HS.out⟩
    · have e1 := hB hor
      have k9 : (ep != p.epoch) = false := by
        have h : ¬ ep ≠ p.epoch := fun h => hor (.inr h)
        simpa using h
      have k8 : (p.epoch == 0) = false := by
        have h : ¬ p.epoch = 0 := fun h => hor (.inl h)
        simpa using h
      dsimp only at e1
      have k7 : (EQ.err != 25) = true := by simpa using e1
      have m0 : w8.cell? ⟨w7.heap.size + 1, 0, none⟩ = some (.int .i64 EQ.err) := HRQ.out.cell 0
      have p0 : w8.cell? ⟨w4.heap.size, 0, none⟩ = some (.int .i64 p.epoch) := HP.out.cell 0
      have c0 : w8.cell? ⟨w.heap.size, 0, none⟩ = some (.int .i64 c.kind) := B0.out.cell 0
      clear hA hB e1 hor
      go_wp2
      go_ret
      exact ⟨rfl, HS.out⟩
end Go.Proofs.Ytoldelocfmpccaa
