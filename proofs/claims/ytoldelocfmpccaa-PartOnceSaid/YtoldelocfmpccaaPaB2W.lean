/-
  PartOnce: for all commands, a command that comes twice in a row does nothing the second time: the walk.
-/
import Derived.Test.YtoldelocfmpccaaS1
import Derived.Test.YtoldelocfmpccaaS2
import Derived.Test.YtoldelocfmpccaaS3
import Derived.Test.YtoldelocfmpccaaS4
import Derived.Test.YtoldelocfmpccaaS5
import Derived.Test.YtoldelocfmpccaaS6
import Derived.Test.YtoldelocfmpccaaS7
import Derived.Test.YtoldelocfmpccaaS8
import Derived.Test.YtoldelocfmpccaaS9
import Derived.Test.YtoldelocfmpccaaS10
import Derived.Test.YtoldelocfmpccaaS11
import Derived.Test.YtoldelocfmpccaaS12
import Derived.Test.YtoldelocfmpccaaS13
import Derived.Test.YtoldelocfmpccaaS14
set_option linter.unusedSimpArgs false
set_option linter.unusedVariables false
namespace Go.Proofs.Ytoldelocfmpccaa
open Go.RowKit
set_option maxRecDepth 100000 in
set_option maxHeartbeats 8000000 in
theorem once_walk (v vs vw : Value) (l : List CmdM) (c : CmdM) (w : World) (hv : CmdR w (fun k => k < w.heap.size) v l) (hsp : SpanR w (fun k => k < w.heap.size) vs c.spans) (hwr : WrR w (fun k => k < w.heap.size) vw c.writes) (hcl : CmdL c) :
    Calls Try.prog 16 #[v, cmdV vs vw c] w fun e w' => e = .returned (.bool true) ∧ Same (fun _ => True) w w' := by
  obtain ⟨As, cs_, rfl, hs1, hs2⟩ := SpanR.form hsp
  obtain ⟨Aw, cw_, rfl, hw1, hw2⟩ := WrR.form hwr
  have Hsp := Lib.hid (hsp.mono (S' := fun _ => True) (by omega) fun _ _ _ => trivial)
  have Hwr := Lib.hid (hwr.mono (S' := fun _ => True) (by omega) fun _ _ _ => trivial)
  have Hcl := Lib.hid hcl
  unfold maxLen at hs2 hw2
  clear hsp hwr hcl
  obtain ⟨A, cl, rfl, hlc, hlm⟩ := hv.form
  have Hv := Lib.hid hv
  unfold maxLen at hlm
  clear hv
  have r0 := Row.new w 81 (cmdCs (.slice As c.spans.length cs_) (.slice Aw c.writes.length cw_) c)
  have hS0 := (Same.refl (fun _ => True) w).alloc (.cells (cmdCs (.slice As c.spans.length cs_) (.slice Aw c.writes.length cw_) c).toArray 81)
  have B0 := Lib.hid r0
  have HS := Lib.hid hS0
  clear hS0 r0
  go_enter Try.func16, Try.ntmps16
  go_wp2_with (go_at_call 38; refine stopAt ?_)
  unfold Hid
  refine (begunp_any _).mono ?_
  rintro e w1 ⟨rfl, hS1⟩
  have B0 := Lib.hid (B0.out.keep hS1 trivial)
  have HS := Lib.hid (HS.out.trans hS1)
  clear hS1
  go_wp2_with (go_at_call 39; refine stopAt ?_)
  unfold Hid
  refine (lightk_any (.slice A l.length cl) l 50 _ w1 (Hv.out.keepAll HS.out) (by omega)).mono ?_
  rintro e w2 ⟨bl, rfl, hbl, hS1⟩
  have B0 := Lib.hid (B0.out.keep hS1 trivial)
  have HS := Lib.hid (HS.out.trans hS1)
  clear hS1
  cases bl
  · clear hbl
    go_wp2
    go_ret
    exact ⟨rfl, HS.out⟩
  obtain ⟨hlen, hlw⟩ := hbl rfl
  clear hbl
  have Hlw := Lib.hid hlw
  clear hlw
  have r_ := B0.out
  have c0 := r_.cell 0
  have c1 := r_.cell 1
  have c2 := r_.cell 2
  have c3 := r_.cell 3
  have c4 := r_.cell 4
  have c5 := r_.cell 5
  have c6 := r_.cell 6
  have c7 := r_.cell 7
  have c8 := r_.cell 8
  have c9 := r_.cell 9
  have c10 := r_.cell 10
  have c11 := r_.cell 11
  have c12 := r_.cell 12
  have c13 := r_.cell 13
  simp only [partCs, cmdCs, repCs, tryCs, stCs, wrCs, List.getElem?_cons_zero, List.getElem?_cons_succ] at c0 c1 c2 c3 c4 c5 c6 c7 c8 c9 c10 c11 c12 c13
  clear r_
  have HX := Lib.hid ((Same.refl (fun _ => True) w2).alloc (.cells (cmdCs (.slice As c.spans.length cs_) (.slice Aw c.writes.length cw_) c).toArray 81))
  go_wp2_with (go_at_call 39; refine stopAt ?_)
  unfold Hid
  refine (lightk_any _ [c] 1 _ _ (cmd_one (Row.new w2 81 (cmdCs (.slice As c.spans.length cs_) (.slice Aw c.writes.length cw_) c)) (RowR.keepAll Hsp.out (HS.out.trans HX.out)) (RowR.keepAll Hwr.out (HS.out.trans HX.out)) Hcl.out) (by omega)).mono ?_
  rintro e w3 ⟨bl, rfl, hbl, hS1⟩
  clear c0 c1 c2 c3 c4 c5 c6 c7 c8 c9 c10 c11 c12 c13
  have B0 := Lib.hid (B0.out.keep (HX.out.trans hS1) trivial)
  have HS := Lib.hid (HS.out.trans (HX.out.trans hS1))
  clear hS1 HX
  cases bl
  · clear hbl
    go_wp2
    go_ret
    exact ⟨rfl, HS.out⟩
  have hcw := (hbl rfl).2 c (List.mem_singleton_self _)
  clear hbl
  have HZ := Lib.hid (show w.heap.size < w3.heap.size from B0.out.lt)
  go_wp2_with (go_at_call 51; refine stopAt ?_)
  unfold Hid
  refine (run_any (.slice A l.length cl) l _ w3 (Hv.out.keepAll HS.out) (by omega) Hlw.out).mono ?_
  rintro e w4 ⟨va, rfl, hps, hS1⟩
  obtain ⟨Ap, cap, rfl, hp1, hp2⟩ := hps.form
  rw [states_len] at hps hp1 ⊢
  have HPS := Lib.hid hps
  have hS1s := hS1.size
  have B0 := Lib.hid (B0.out.keep hS1 trivial)
  have HS := Lib.hid (HS.out.trans hS1)
  clear hS1 hps
  unfold maxLen at hp2
  have HZ := Lib.hid (show w.heap.size < w3.heap.size ∧ w3.heap.size ≤ w4.heap.size from ⟨HZ.out, hS1s⟩)
  clear hS1s
  obtain ⟨ap, vc, vr, vd, rfl, hown, p0, hps0⟩ := PartsO.at_ HPS.out (i := l.length) (by rw [states_len]; omega)
  rw [states_at, List.take_length] at hown p0 hps0
  have hfin := fine_run Hlw.out l.length (Nat.le_refl _)
  have hepo := run_epoch (l := l) l.length (Nat.le_refl _)
  rw [List.take_length] at hfin hepo
  generalize runP l = p at *
  obtain ⟨P0, p0_, rfl, hq1, hq2⟩ := hown.cells.form
  obtain ⟨P1, p1_, rfl, hq3, hq4⟩ := OwnR.form hown.recs
  obtain ⟨P2, p2_, rfl, hq5, hq6⟩ := OwnR.form hown.done
  unfold maxLen at hq2 hq4 hq6
  have Hfin := Lib.hid hfin
  have x1 : (0 : Int) ≤ (l.length : Int) := by omega
  have x3 : ((l.length + 1 : Nat) : Int) - 1 = (l.length : Int) := by omega
  have x4 : (l.length : Int) < ((l.length + 1 : Nat) : Int) := by omega
  have p1 := hps0 1 (by omega) (by omega)
  have p2 := hps0 2 (by omega) (by omega)
  have p3 := hps0 3 (by omega) (by omega)
  have p4 := hps0 4 (by omega) (by omega)
  have p5 := hps0 5 (by omega) (by omega)
  have p6 := hps0 6 (by omega) (by omega)
  have p7 := hps0 7 (by omega) (by omega)
  have p8 := hps0 8 (by omega) (by omega)
  simp only [partCs, List.getElem?_cons_zero, List.getElem?_cons_succ] at p1 p2 p3 p4 p5 p6 p7 p8
  have g0 := Row.new w4 77 (partCs (.slice P0 p.cells.length p0_) (.slice P1 p.recs.length p1_) (.slice P2 p.done.length p2_) p)
  have gS := (Same.refl (fun _ => True) w4).alloc (.cells (partCs (.slice P0 p.cells.length p0_) (.slice P1 p.recs.length p1_) (.slice P2 p.done.length p2_) p).toArray 77)
  have HO := Lib.hid hown
  clear hps0 hown hfin
  go_wp2_with (with_reducible refine stopDst 30 rfl ?_)
  unfold Hid
  simp only [partCs] at g0 gS
  revert g0 gS
  generalize w4.alloc _ = w5
  intro g0 gS
  have HP := Lib.hid g0
  have B0 := Lib.hid (B0.out.keep gS trivial)
  have HO := Lib.hid (HO.out.keepAll gS)
  have HS := Lib.hid (HS.out.trans gS)
  clear g0 gS HPS x1 x3 x4
  clear p0 p1 p2 p3 p4 p5 p6 p7 p8
  have r_ := HP.out
  have p0 := r_.cell 0
  have p1 := r_.cell 1
  have p2 := r_.cell 2
  have p3 := r_.cell 3
  have p4 := r_.cell 4
  have p5 := r_.cell 5
  have p6 := r_.cell 6
  have p7 := r_.cell 7
  have p8 := r_.cell 8
  simp only [partCs, cmdCs, repCs, tryCs, stCs, wrCs, List.getElem?_cons_zero, List.getElem?_cons_succ] at p0 p1 p2 p3 p4 p5 p6 p7 p8
  clear r_
  have r_ := B0.out
  have c0 := r_.cell 0
  have c1 := r_.cell 1
  have c2 := r_.cell 2
  have c3 := r_.cell 3
  have c4 := r_.cell 4
  have c5 := r_.cell 5
  have c6 := r_.cell 6
  have c7 := r_.cell 7
  have c8 := r_.cell 8
  have c9 := r_.cell 9
  have c10 := r_.cell 10
  have c11 := r_.cell 11
  have c12 := r_.cell 12
  have c13 := r_.cell 13
  simp only [partCs, cmdCs, repCs, tryCs, stCs, wrCs, List.getElem?_cons_zero, List.getElem?_cons_succ] at c0 c1 c2 c3 c4 c5 c6 c7 c8 c9 c10 c11 c12 c13
  clear r_
  go_wp2_with (go_at_call 40; refine stopAt ?_)
  unfold Hid
  refine (ownp_any _ _ _ _ _ p c false w5 ⟨_, _, _, rfl⟩ ⟨_, _, _, rfl⟩ ⟨_, _, _, rfl⟩ ⟨_, _, _, rfl⟩ ⟨_, _, _, rfl⟩ (by omega)).mono ?_
  rintro e w6 ⟨rfl, hSo⟩
  have B0 := Lib.hid (B0.out.keep hSo trivial)
  have HP := Lib.hid (HP.out.keep hSo trivial)
  have HO := Lib.hid (HO.out.keepAll hSo)
  have HS := Lib.hid (HS.out.trans hSo)
  clear p0 p1 p2 p3 p4 p5 p6 p7 p8
  clear c0 c1 c2 c3 c4 c5 c6 c7 c8 c9 c10 c11 c12 c13
  clear hSo
  have b_ := B0.out
  unfold cmdCs at b_
  have f0 := b_.frozen 0
  have f1 := b_.frozen 1
  have f2 := b_.frozen 2
  have f3 := b_.frozen 3
  have f4 := b_.frozen 4
  have f5 := b_.frozen 5
  have f6 := b_.frozen 6
  have f7 := b_.frozen 7
  have f8 := b_.frozen 8
  have f9 := b_.frozen 9
  have f10 := b_.frozen 10
  have f11 := b_.frozen 11
  have f12 := b_.frozen 12
  have f13 := b_.frozen 13
  have c0 := b_.cell 0
  have c1 := b_.cell 1
  have c2 := b_.cell 2
  have c3 := b_.cell 3
  have c4 := b_.cell 4
  have c5 := b_.cell 5
  have c6 := b_.cell 6
  have c7 := b_.cell 7
  have c8 := b_.cell 8
  have c9 := b_.cell 9
  have c10 := b_.cell 10
  have c11 := b_.cell 11
  have c12 := b_.cell 12
  have c13 := b_.cell 13
  simp only [List.getElem?_cons_zero, List.getElem?_cons_succ] at c0 c1 c2 c3 c4 c5 c6 c7 c8 c9 c10 c11 c12 c13
  have bz := b_.lt
  clear b_
  go_wp2_with (with_reducible refine stopDst 34 rfl ?_)
  unfold Hid
  have hp5 := B0.out.sets (cmdCs (.slice As c.spans.length cs_) (.slice Aw c.writes.length cw_) (ownF p c false)) 0
  have s5 := Same.sets (S := fun q => q ≠ w.heap.size) (g := w.heap.size) (fun h => h rfl) (cmdCs (.slice As c.spans.length cs_) (.slice Aw c.writes.length cw_) (ownF p c false)) 0 (Same.refl _ w6)
  obtain ⟨w7, hw5⟩ : ∃ w7, w7 = setsW w6 w.heap.size 0 (cmdCs (.slice As c.spans.length cs_) (.slice Aw c.writes.length cw_) (ownF p c false)) := ⟨_, rfl⟩
  rw [← hw5] at s5 hp5
  simp only [setsW, cmdCs, Nat.zero_add, Nat.reduceAdd] at hw5
  rw [← hw5]
  clear hw5 bz c0 f0 c1 f1 c2 f2 c3 f3 c4 f4 c5 f5 c6 f6 c7 f7 c8 f8 c9 f9 c10 f10 c11 f11 c12 f12 c13 f13
  have hzb := HZ.out
  have hne : w4.heap.size ≠ w.heap.size := by omega
  have B0 := Lib.hid (show Row w7 w.heap.size 81 (cmdCs (.slice As c.spans.length cs_) (.slice Aw c.writes.length cw_) (ownF p c false)) from hp5)
  have HP := Lib.hid (HP.out.keep s5 hne)
  have HO := Lib.hid (HO.out.keep s5 fun k hk _ => by omega)
  have HS := Lib.hid (HS.out.trans' s5 fun k hk _ => by omega)
  clear hp5 s5 hne hzb
  have r_ := HP.out
  have p0 := r_.cell 0
  have p1 := r_.cell 1
  have p2 := r_.cell 2
  have p3 := r_.cell 3
  have p4 := r_.cell 4
  have p5 := r_.cell 5
  have p6 := r_.cell 6
  have p7 := r_.cell 7
  have p8 := r_.cell 8
  simp only [partCs, cmdCs, repCs, tryCs, stCs, wrCs, List.getElem?_cons_zero, List.getElem?_cons_succ] at p0 p1 p2 p3 p4 p5 p6 p7 p8
  clear r_
  have r_ := B0.out
  have c0 := r_.cell 0
  have c1 := r_.cell 1
  have c2 := r_.cell 2
  have c3 := r_.cell 3
  have c4 := r_.cell 4
  have c5 := r_.cell 5
  have c6 := r_.cell 6
  have c7 := r_.cell 7
  have c8 := r_.cell 8
  have c9 := r_.cell 9
  have c10 := r_.cell 10
  have c11 := r_.cell 11
  have c12 := r_.cell 12
  have c13 := r_.cell 13
  simp only [partCs, cmdCs, repCs, tryCs, stCs, wrCs, List.getElem?_cons_zero, List.getElem?_cons_succ] at c0 c1 c2 c3 c4 c5 c6 c7 c8 c9 c10 c11 c12 c13
  clear r_
  have ga := apply_any (100 * l.length) (fun _ => True) (.slice P0 p.cells.length p0_) (.slice P1 p.recs.length p1_) (.slice P2 p.done.length p2_) (.slice As c.spans.length cs_) (.slice Aw c.writes.length cw_) p (ownF p c false) w7 (HO.out.reads.all) (Hfin.out.toN (by omega)) Hfin.out.cells (by show 100 * l.length + c.writes.length ≤ 100000; omega) (by omega) (RowR.keepAll Hsp.out HS.out) (RowR.keepAll Hwr.out HS.out)
  obtain ⟨QQ, EQ, hQE⟩ : ∃ Q E, applyF p (ownF p c false) = (Q, E) := ⟨_, _, rfl⟩
  rw [hQE] at ga
  have HQQ := Lib.hid hQE
  clear hQE
  go_wp2_with (go_at_call 42; refine stopAt ?_)
  unfold Hid
  refine ga.mono ?_
  rintro e w8 ⟨vc, vr, vd, vp, rfl, ho, hp, hS⟩
  clear ga
  obtain ⟨Q0, q0_, rfl, -, hb0⟩ := ho.cells.form
  obtain ⟨Q1, q1_, rfl, -, hb1⟩ := OwnR.form ho.recs
  obtain ⟨Q2, q2_, rfl, -, hb2⟩ := OwnR.form ho.done
  obtain ⟨Q3, q3_, rfl, -, hb3⟩ := OwnP.form hp
  unfold maxLen at hb0 hb1 hb2 hb3
  have rp := (Row.new w8 77 (partCs (.slice Q0 QQ.cells.length q0_) (.slice Q1 QQ.recs.length q1_) (.slice Q2 QQ.done.length q2_) QQ)).keep ((Same.refl (fun _ => True) _).alloc (.cells (repCs (.slice Q3 EQ.pairs.length q3_) EQ).toArray 85)) trivial
  have rr := Row.new (w8.alloc (.cells (partCs (.slice Q0 QQ.cells.length q0_) (.slice Q1 QQ.recs.length q1_) (.slice Q2 QQ.done.length q2_) QQ).toArray 77)) 85 (repCs (.slice Q3 EQ.pairs.length q3_) EQ)
  rw [World.size_alloc] at rr
  have hS0 := ((Same.refl (fun _ => True) w8).alloc (.cells (partCs (.slice Q0 QQ.cells.length q0_) (.slice Q1 QQ.recs.length q1_) (.slice Q2 QQ.done.length q2_) QQ).toArray 77)).alloc (.cells (repCs (.slice Q3 EQ.pairs.length q3_) EQ).toArray 85)
  go_wp2_with (with_reducible refine stopDst 40 rfl ?_)
  unfold Hid
  simp only [partCs, repCs] at rp rr hS0
  revert rp rr hS0
  generalize (w8.alloc _).alloc _ = w9
  intro rp rr hS0
  have hsv := hS.trans hS0
  have B0 := Lib.hid (B0.out.keep hsv trivial)
  have HP := Lib.hid (HP.out.keep hsv trivial)
  have HO := Lib.hid (HO.out.keepAll hsv)
  have HS := Lib.hid (HS.out.trans hsv)
  have HPQ := Lib.hid rp
  have HRQ := Lib.hid rr
  have HOQ := Lib.hid ((ho.keepAll hS0).reads.all)
  clear ho hp hS rp rr hS0 hsv
  clear p0 p1 p2 p3 p4 p5 p6 p7 p8
  clear c0 c1 c2 c3 c4 c5 c6 c7 c8 c9 c10 c11 c12 c13
  have HfQ := Lib.hid (show FineP (100 * l.length + c.writes.length + 1) QQ by
    have := fine_step Hfin.out (apply_step p (ownF p c false))
    rw [HQQ.out] at this
    exact this)
  have hepq := HfQ.out.epoch
  have r_ := HPQ.out
  have p0 := r_.cell 0
  have p1 := r_.cell 1
  have p2 := r_.cell 2
  have p3 := r_.cell 3
  have p4 := r_.cell 4
  have p5 := r_.cell 5
  have p6 := r_.cell 6
  have p7 := r_.cell 7
  have p8 := r_.cell 8
  simp only [partCs, cmdCs, repCs, tryCs, stCs, wrCs, List.getElem?_cons_zero, List.getElem?_cons_succ] at p0 p1 p2 p3 p4 p5 p6 p7 p8
  clear r_
  have r_ := B0.out
  have c0 := r_.cell 0
  have c1 := r_.cell 1
  have c2 := r_.cell 2
  have c3 := r_.cell 3
  have c4 := r_.cell 4
  have c5 := r_.cell 5
  have c6 := r_.cell 6
  have c7 := r_.cell 7
  have c8 := r_.cell 8
  have c9 := r_.cell 9
  have c10 := r_.cell 10
  have c11 := r_.cell 11
  have c12 := r_.cell 12
  have c13 := r_.cell 13
  simp only [partCs, cmdCs, repCs, tryCs, stCs, wrCs, List.getElem?_cons_zero, List.getElem?_cons_succ] at c0 c1 c2 c3 c4 c5 c6 c7 c8 c9 c10 c11 c12 c13
  clear r_
  have ga := apply_any (100 * l.length + c.writes.length + 1) (fun _ => True) (.slice Q0 QQ.cells.length q0_) (.slice Q1 QQ.recs.length q1_) (.slice Q2 QQ.done.length q2_) (.slice As c.spans.length cs_) (.slice Aw c.writes.length cw_) QQ (ownF p c false) w9 HOQ.out (HfQ.out.toN (by omega)) HfQ.out.cells (by show 100 * l.length + c.writes.length + 1 + c.writes.length ≤ 100000; omega) (by omega) (RowR.keepAll Hsp.out HS.out) (RowR.keepAll Hwr.out HS.out)
  obtain ⟨QR, ER, hQE⟩ : ∃ Q E, applyF QQ (ownF p c false) = (Q, E) := ⟨_, _, rfl⟩
  rw [hQE] at ga
  have HQR := Lib.hid hQE
  clear hQE
  go_wp2_with (go_at_call 42; refine stopAt ?_)
  unfold Hid
  refine ga.mono ?_
  rintro e wa ⟨vc, vr, vd, vp, rfl, ho, hp, hS⟩
  clear ga
  obtain ⟨R0, r0_, rfl, -, hb0⟩ := ho.cells.form
  obtain ⟨R1, r1_, rfl, -, hb1⟩ := OwnR.form ho.recs
  obtain ⟨R2, r2_, rfl, -, hb2⟩ := OwnR.form ho.done
  obtain ⟨R3, r3_, rfl, -, hb3⟩ := OwnP.form hp
  unfold maxLen at hb0 hb1 hb2 hb3
  have rp := (Row.new wa 77 (partCs (.slice R0 QR.cells.length r0_) (.slice R1 QR.recs.length r1_) (.slice R2 QR.done.length r2_) QR)).keep ((Same.refl (fun _ => True) _).alloc (.cells (repCs (.slice R3 ER.pairs.length r3_) ER).toArray 85)) trivial
  have rr := Row.new (wa.alloc (.cells (partCs (.slice R0 QR.cells.length r0_) (.slice R1 QR.recs.length r1_) (.slice R2 QR.done.length r2_) QR).toArray 77)) 85 (repCs (.slice R3 ER.pairs.length r3_) ER)
  rw [World.size_alloc] at rr
  have hS0 := ((Same.refl (fun _ => True) wa).alloc (.cells (partCs (.slice R0 QR.cells.length r0_) (.slice R1 QR.recs.length r1_) (.slice R2 QR.done.length r2_) QR).toArray 77)).alloc (.cells (repCs (.slice R3 ER.pairs.length r3_) ER).toArray 85)
  go_wp2_with (with_reducible refine stopDst 45 rfl ?_)
  unfold Hid
  simp only [partCs, repCs] at rp rr hS0
  revert rp rr hS0
  generalize (wa.alloc _).alloc _ = wb
  intro rp rr hS0
  have hsv := hS.trans hS0
  have B0 := Lib.hid (B0.out.keep hsv trivial)
  have HPQ := Lib.hid (HPQ.out.keep hsv trivial)
  have HRQ := Lib.hid (HRQ.out.keep hsv trivial)
  have HOQ := Lib.hid (HOQ.out.keepAll hsv)
  have HS := Lib.hid (HS.out.trans hsv)
  have HPR := Lib.hid rp
  have HRR := Lib.hid rr
  have HOR := Lib.hid ((ho.keepAll hS0).reads.all)
  clear ho hp hS rp rr hS0 hsv
  clear p0 p1 p2 p3 p4 p5 p6 p7 p8
  clear c0 c1 c2 c3 c4 c5 c6 c7 c8 c9 c10 c11 c12 c13
  have hx := HQQ.out
  have hy := HQR.out
  have hk0 : (ownF p c false).kind = c.kind := rfl
  have b0 : wb.cell? ⟨w.heap.size, 0, none⟩ = some (.int .i64 c.kind) := B0.out.cell 0
  by_cases hk : c.kind = 1
  · obtain ⟨e1, e2, e3⟩ := once_lease (p := p) (c := ownF p c false) (by omega) hk (by unfold ownF; rw [if_neg (by simp), if_pos hk])
    rw [hx] at e1 e2 e3
    rw [hy] at e2 e3
    dsimp only at e1 e2 e3
    have k1 : (c.kind == 1) = true := by simp [hk]
    have m0 : wb.cell? ⟨w8.heap.size + 1, 0, none⟩ = some (.int .i64 0) := by rw [← e1]; exact HRQ.out.cell 0
    have m1 : wb.cell? ⟨wa.heap.size + 1, 0, none⟩ = some (.int .i64 25) := by rw [← e2]; exact HRR.out.cell 0
    clear hx hy hk hk0 e1 e2
    subst QR
    have r_ := HPQ.out
    have p0 := r_.cell 0
    have p1 := r_.cell 1
    have p2 := r_.cell 2
    have p3 := r_.cell 3
    have p4 := r_.cell 4
    have p5 := r_.cell 5
    have p6 := r_.cell 6
    have p7 := r_.cell 7
    have p8 := r_.cell 8
    simp only [partCs, cmdCs, repCs, tryCs, stCs, wrCs, List.getElem?_cons_zero, List.getElem?_cons_succ] at p0 p1 p2 p3 p4 p5 p6 p7 p8
    clear r_
    have r_ := HPR.out
    have n0 := r_.cell 0
    have n1 := r_.cell 1
    have n2 := r_.cell 2
    have n3 := r_.cell 3
    have n4 := r_.cell 4
    have n5 := r_.cell 5
    have n6 := r_.cell 6
    have n7 := r_.cell 7
    have n8 := r_.cell 8
    simp only [partCs, cmdCs, repCs, tryCs, stCs, wrCs, List.getElem?_cons_zero, List.getElem?_cons_succ] at n0 n1 n2 n3 n4 n5 n6 n7 n8
    clear r_
    go_wp2_with (go_at_call 44; refine stopAt ?_)
    unfold Hid
    refine (samepart_any _ _ _ _ _ _ QQ _ _ wb HOQ.out HOR.out (HfQ.out.toN (by omega))).mono ?_
    rintro e wc ⟨rfl, hSx⟩
    have HS := Lib.hid (HS.out.trans hSx)
    have HSx := Lib.hid hSx
    clear hSx
    go_wp2
    go_ret
    exact ⟨rfl, HS.out⟩
  · obtain ⟨e1, e2⟩ := once_plain (p := p) (c := ownF p c false) Hfin.out.cells.good hk (by unfold ownF; rw [if_neg (by simp), if_neg hk])
    rw [hx] at e1 e2
    rw [hy] at e1 e2
    dsimp only at e1 e2
    have k1 : (c.kind == 1) = false := by simp [hk]
    have HE2 := Lib.hid e2
    clear hx hy hk hk0 e2
    subst QR
    have r_ := HPQ.out
    have p0 := r_.cell 0
    have p1 := r_.cell 1
    have p2 := r_.cell 2
    have p3 := r_.cell 3
    have p4 := r_.cell 4
    have p5 := r_.cell 5
    have p6 := r_.cell 6
    have p7 := r_.cell 7
    have p8 := r_.cell 8
    simp only [partCs, cmdCs, repCs, tryCs, stCs, wrCs, List.getElem?_cons_zero, List.getElem?_cons_succ] at p0 p1 p2 p3 p4 p5 p6 p7 p8
    clear r_
    have r_ := HPR.out
    have n0 := r_.cell 0
    have n1 := r_.cell 1
    have n2 := r_.cell 2
    have n3 := r_.cell 3
    have n4 := r_.cell 4
    have n5 := r_.cell 5
    have n6 := r_.cell 6
    have n7 := r_.cell 7
    have n8 := r_.cell 8
    simp only [partCs, cmdCs, repCs, tryCs, stCs, wrCs, List.getElem?_cons_zero, List.getElem?_cons_succ] at n0 n1 n2 n3 n4 n5 n6 n7 n8
    clear r_
    go_wp2_with (go_at_call 44; refine stopAt ?_)
    unfold Hid
    refine (samepart_any _ _ _ _ _ _ QQ _ _ wb HOQ.out HOR.out (HfQ.out.toN (by omega))).mono ?_
    rintro e wc ⟨rfl, hSx⟩
    have HS := Lib.hid (HS.out.trans hSx)
    have HSx := Lib.hid hSx
    clear hSx
    have m0 : wc.cell? ⟨w8.heap.size + 1, 0, none⟩ = some (.int .i64 EQ.err) := (HRQ.out.keep HSx.out trivial).cell 0
    have m1 : wc.cell? ⟨wa.heap.size + 1, 0, none⟩ = some (.int .i64 EQ.err) := by rw [← HE2.out]; exact (HRR.out.keep HSx.out trivial).cell 0
    generalize EQ.err = ee at m0 m1
    by_cases hz : ee = 0
    · subst hz
      go_wp2
      go_ret
      exact ⟨rfl, HS.out⟩
    · have k2 : (ee != 0) = true := by simpa using hz
      clear hz
      go_wp2
      go_ret
      exact ⟨rfl, HS.out⟩
end Go.Proofs.Ytoldelocfmpccaa
