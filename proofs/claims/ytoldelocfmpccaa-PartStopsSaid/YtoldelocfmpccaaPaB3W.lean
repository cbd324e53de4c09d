/-
  PartStops: for all commands, a Prepare that may not be is refused, and why: the walk.
-/
import Derived.Test.YtoldelocfmpccaaS1
import Derived.Test.YtoldelocfmpccaaS2
import Derived.Test.YtoldelocfmpccaaS3
import Derived.Test.YtoldelocfmpccaaS4
import Derived.Test.YtoldelocfmpccaaS5
import Derived.Test.YtoldelocfmpccaaS6
import Derived.Test.YtoldelocfmpccaaS7
import Derived.Test.YtoldelocfmpccaaS8
import Derived.Test.YtoldelocfmpccaaS9
import Derived.Test.YtoldelocfmpccaaS10
import Derived.Test.YtoldelocfmpccaaS11
import Derived.Test.YtoldelocfmpccaaS12
import Derived.Test.YtoldelocfmpccaaS13
import Derived.Test.YtoldelocfmpccaaS14
set_option linter.unusedSimpArgs false
set_option linter.unusedVariables false
namespace Go.Proofs.Ytoldelocfmpccaa
open Go.RowKit
set_option maxRecDepth 100000 in
set_option maxHeartbeats 8000000 in
theorem stops_walk (v : Value) (l : List CmdM) (b : TryT) (a : St) (x : Wr) (w : World) (hv : CmdR w (fun k => k < w.heap.size) v l) (hxk : x.key.length ≤ maxLen) (hxd : x.data.length ≤ maxLen) :
    Calls Try.prog 19 #[v, tryV b, stV a, wrV x] w fun e w' => e = .returned (.bool true) ∧ Same (fun _ => True) w w' := by
  obtain ⟨A, cl, rfl, hlc, hlm⟩ := hv.form
  have Hv := Lib.hid hv
  unfold maxLen at hlm
  clear hv
  unfold maxLen at hxk hxd
  have r0 := ((Row.new w 26 (tryCs b)).keep ((Same.refl (fun _ => True) _).alloc (.cells (stCs a).toArray 28)) trivial).keep ((Same.refl (fun _ => True) _).alloc (.cells (wrCs x).toArray 24)) trivial
  have r1 := (Row.new (w.alloc (.cells (tryCs b).toArray 26)) 28 (stCs a)).keep ((Same.refl (fun _ => True) _).alloc (.cells (wrCs x).toArray 24)) trivial
  rw [World.size_alloc] at r1
  have r2 := Row.new ((w.alloc (.cells (tryCs b).toArray 26)).alloc (.cells (stCs a).toArray 28)) 24 (wrCs x)
  rw [World.size_alloc, World.size_alloc] at r2
  have hS0 := (((Same.refl (fun _ => True) w).alloc (.cells (tryCs b).toArray 26)).alloc (.cells (stCs a).toArray 28)).alloc (.cells (wrCs x).toArray 24)
  have B0 := Lib.hid r0
  have B1 := Lib.hid r1
  have B2 := Lib.hid r2
  have HS := Lib.hid hS0
  clear hS0 r0 r1 r2
  go_enter Try.func19, Try.ntmps19
  go_wp2_with (go_at_call 38; refine stopAt ?_)
  unfold Hid
  refine (begunp_any _).mono ?_
  rintro e w1 ⟨rfl, hS1⟩
  have B0 := Lib.hid (B0.out.keep hS1 trivial)
  have B1 := Lib.hid (B1.out.keep hS1 trivial)
  have B2 := Lib.hid (B2.out.keep hS1 trivial)
  have HS := Lib.hid (HS.out.trans hS1)
  clear hS1
  go_wp2_with (go_at_call 39; refine stopAt ?_)
  unfold Hid
  refine (lightk_any (.slice A l.length cl) l 40 _ w1 (Hv.out.keepAll HS.out) (by omega)).mono ?_
  rintro e w2 ⟨bl, rfl, hbl, hS1⟩
  have B0 := Lib.hid (B0.out.keep hS1 trivial)
  have B1 := Lib.hid (B1.out.keep hS1 trivial)
  have B2 := Lib.hid (B2.out.keep hS1 trivial)
  have HS := Lib.hid (HS.out.trans hS1)
  clear hS1
  cases bl
  · clear hbl
    go_wp2
    go_ret
    exact ⟨rfl, HS.out⟩
  obtain ⟨hlen, hlw⟩ := hbl rfl
  clear hbl
  have Hlw := Lib.hid hlw
  clear hlw
  have r_ := B2.out
  have k0 := r_.cell 0
  have k1 := r_.cell 1
  have k2 := r_.cell 2
  simp only [partCs, cmdCs, repCs, tryCs, stCs, wrCs, List.getElem?_cons_zero, List.getElem?_cons_succ] at k0 k1 k2
  clear r_
  have s1 : (str x.key).size = x.key.length := str_size _
  have s2 : (str x.data).size = x.data.length := str_size _
  by_cases hb1 : 500 < (x.key.length : Int)
  · go_wp2
    go_ret
    exact ⟨rfl, HS.out⟩
  by_cases hb2 : 500 < (x.data.length : Int)
  · go_wp2
    go_ret
    exact ⟨rfl, HS.out⟩
  go_wp2_with (go_at_call 51; refine stopAt ?_)
  unfold Hid
  refine (run_any (.slice A l.length cl) l _ w2 (Hv.out.keepAll HS.out) (by omega) Hlw.out).mono ?_
  rintro e w3 ⟨va, rfl, hps, hS1⟩
  obtain ⟨Ap, cap, rfl, hp1, hp2⟩ := hps.form
  rw [states_len] at hps hp1 ⊢
  have HPS := Lib.hid hps
  have hS1s := hS1.size
  have B0 := Lib.hid (B0.out.keep hS1 trivial)
  have B1 := Lib.hid (B1.out.keep hS1 trivial)
  have B2 := Lib.hid (B2.out.keep hS1 trivial)
  have HS := Lib.hid (HS.out.trans hS1)
  clear hS1 hps
  unfold maxLen at hp2
  clear hS1s k0 k1 k2 s1 s2
  obtain ⟨ap, vc, vr, vd, rfl, hown, p0, hps0⟩ := PartsO.at_ HPS.out (i := l.length) (by rw [states_len]; omega)
  rw [states_at, List.take_length] at hown p0 hps0
  have hfin := fine_run Hlw.out l.length (Nat.le_refl _)
  have hepo := run_epoch (l := l) l.length (Nat.le_refl _)
  rw [List.take_length] at hfin hepo
  generalize runP l = p at *
  obtain ⟨P0, p0_, rfl, hq1, hq2⟩ := hown.cells.form
  obtain ⟨P1, p1_, rfl, hq3, hq4⟩ := OwnR.form hown.recs
  obtain ⟨P2, p2_, rfl, hq5, hq6⟩ := OwnR.form hown.done
  unfold maxLen at hq2 hq4 hq6
  have Hfin := Lib.hid hfin
  have x1 : (0 : Int) ≤ (l.length : Int) := by omega
  have x3 : ((l.length + 1 : Nat) : Int) - 1 = (l.length : Int) := by omega
  have x4 : (l.length : Int) < ((l.length + 1 : Nat) : Int) := by omega
  have p1 := hps0 1 (by omega) (by omega)
  have p2 := hps0 2 (by omega) (by omega)
  have p3 := hps0 3 (by omega) (by omega)
  have p4 := hps0 4 (by omega) (by omega)
  have p5 := hps0 5 (by omega) (by omega)
  have p6 := hps0 6 (by omega) (by omega)
  have p7 := hps0 7 (by omega) (by omega)
  have p8 := hps0 8 (by omega) (by omega)
  simp only [partCs, List.getElem?_cons_zero, List.getElem?_cons_succ] at p1 p2 p3 p4 p5 p6 p7 p8
  have g0 := Row.new w3 77 (partCs (.slice P0 p.cells.length p0_) (.slice P1 p.recs.length p1_) (.slice P2 p.done.length p2_) p)
  have gS := (Same.refl (fun _ => True) w3).alloc (.cells (partCs (.slice P0 p.cells.length p0_) (.slice P1 p.recs.length p1_) (.slice P2 p.done.length p2_) p).toArray 77)
  have HO := Lib.hid hown
  clear hps0 hown hfin
  go_wp2_with (with_reducible refine stopDst 42 rfl ?_)
  unfold Hid
  simp only [partCs] at g0 gS
  revert g0 gS
  generalize w3.alloc _ = w4
  intro g0 gS
  have HP := Lib.hid g0
  have B0 := Lib.hid (B0.out.keep gS trivial)
  have B1 := Lib.hid (B1.out.keep gS trivial)
  have B2 := Lib.hid (B2.out.keep gS trivial)
  have HO := Lib.hid (HO.out.keepAll gS)
  have HS := Lib.hid (HS.out.trans gS)
  clear g0 gS HPS x1 x3 x4
  clear p0 p1 p2 p3 p4 p5 p6 p7 p8
  have r_ := HP.out
  have p0 := r_.cell 0
  have p1 := r_.cell 1
  have p2 := r_.cell 2
  have p3 := r_.cell 3
  have p4 := r_.cell 4
  have p5 := r_.cell 5
  have p6 := r_.cell 6
  have p7 := r_.cell 7
  have p8 := r_.cell 8
  simp only [partCs, cmdCs, repCs, tryCs, stCs, wrCs, List.getElem?_cons_zero, List.getElem?_cons_succ] at p0 p1 p2 p3 p4 p5 p6 p7 p8
  clear r_
  by_cases hz : p.epoch = 0
  · have k0 : (p.epoch == 0) = true := by simp [hz]
    clear hz
    go_wp2
    go_ret
    exact ⟨rfl, HS.out⟩
  have k0 : (p.epoch == 0) = false := by simp [hz]
  have Hz := Lib.hid hz
  clear hz
  have r_ := B0.out
  have t0 := r_.cell 0
  have t1 := r_.cell 1
  have t2 := r_.cell 2
  have t3 := r_.cell 3
  simp only [partCs, cmdCs, repCs, tryCs, stCs, wrCs, List.getElem?_cons_zero, List.getElem?_cons_succ] at t0 t1 t2 t3
  clear r_
  have r_ := B1.out
  have a0 := r_.cell 0
  have a1 := r_.cell 1
  simp only [partCs, cmdCs, repCs, tryCs, stCs, wrCs, List.getElem?_cons_zero, List.getElem?_cons_succ] at a0 a1
  clear r_
  have r_ := B2.out
  have k0 := r_.cell 0
  have k1 := r_.cell 1
  have k2 := r_.cell 2
  simp only [partCs, cmdCs, repCs, tryCs, stCs, wrCs, List.getElem?_cons_zero, List.getElem?_cons_succ] at k0 k1 k2
  clear r_
  have HSX := Lib.hid ((Same.refl (fun _ => True) w4).alloc (.cells (wrCs x).toArray 24))
  go_wp2_with (go_at_call 42; refine stopAt ?_)
  unfold Hid
  have ga := apply_any (100 * l.length) (fun _ => True) (.slice P0 p.cells.length p0_) (.slice P1 p.recs.length p1_) (.slice P2 p.done.length p2_) nilV (.slice (some ⟨w4.heap.size, 0, none⟩) 1 1) p (prep1 p b a x) _ (HO.out.reads.all.keepAll HSX.out) (Hfin.out.toN (by omega)) Hfin.out.cells (by show 100 * l.length + 1 ≤ 100000; omega) (by omega) (RowR.nil_ _ _ _ _ (by simp [maxLen])) (row_one (f := wrCs) (fun _ => rfl) (by omega) (Row.new w4 24 (wrCs x)))
  obtain ⟨QQ, EQ, hQE⟩ : ∃ Q E, applyF p (prep1 p b a x) = (Q, E) := ⟨_, _, rfl⟩
  rw [hQE] at ga
  refine ga.mono ?_
  have HQQ := Lib.hid hQE
  clear hQE
  have B0 := Lib.hid (B0.out.keep HSX.out trivial)
  have B1 := Lib.hid (B1.out.keep HSX.out trivial)
  have B2 := Lib.hid (B2.out.keep HSX.out trivial)
  have HP := Lib.hid (HP.out.keep HSX.out trivial)
  have HO := Lib.hid (HO.out.keepAll HSX.out)
  have HS := Lib.hid (HS.out.trans HSX.out)
  clear HSX
  rintro e w5 ⟨vc, vr, vd, vp, rfl, ho, hp, hS⟩
  clear ga
  obtain ⟨Q0, q0_, rfl, -, hb0⟩ := ho.cells.form
  obtain ⟨Q1, q1_, rfl, -, hb1⟩ := OwnR.form ho.recs
  obtain ⟨Q2, q2_, rfl, -, hb2⟩ := OwnR.form ho.done
  obtain ⟨Q3, q3_, rfl, -, hb3⟩ := OwnP.form hp
  unfold maxLen at hb0 hb1 hb2 hb3
  have rp := (Row.new w5 77 (partCs (.slice Q0 QQ.cells.length q0_) (.slice Q1 QQ.recs.length q1_) (.slice Q2 QQ.done.length q2_) QQ)).keep ((Same.refl (fun _ => True) _).alloc (.cells (repCs (.slice Q3 EQ.pairs.length q3_) EQ).toArray 85)) trivial
  have rr := Row.new (w5.alloc (.cells (partCs (.slice Q0 QQ.cells.length q0_) (.slice Q1 QQ.recs.length q1_) (.slice Q2 QQ.done.length q2_) QQ).toArray 77)) 85 (repCs (.slice Q3 EQ.pairs.length q3_) EQ)
  rw [World.size_alloc] at rr
  have hS0 := ((Same.refl (fun _ => True) w5).alloc (.cells (partCs (.slice Q0 QQ.cells.length q0_) (.slice Q1 QQ.recs.length q1_) (.slice Q2 QQ.done.length q2_) QQ).toArray 77)).alloc (.cells (repCs (.slice Q3 EQ.pairs.length q3_) EQ).toArray 85)
  clear p0 p1 p2 p3 p4 p5 p6 p7 p8
  clear t0 t1 t2 t3
  clear a0 a1
  clear k0 k1 k2
  go_wp2_with (with_reducible refine stopDst 58 rfl ?_)
  unfold Hid
  simp only [partCs, repCs] at rp rr hS0
  revert rp rr hS0
  generalize (w5.alloc _).alloc _ = w6
  intro rp rr hS0
  have hsv := hS.trans hS0
  have B0 := Lib.hid (B0.out.keep hsv trivial)
  have B1 := Lib.hid (B1.out.keep hsv trivial)
  have B2 := Lib.hid (B2.out.keep hsv trivial)
  have HP := Lib.hid (HP.out.keep hsv trivial)
  have HO := Lib.hid (HO.out.keepAll hsv)
  have HS := Lib.hid (HS.out.trans hsv)
  have HPQ := Lib.hid rp
  have HRQ := Lib.hid rr
  have HOQ := Lib.hid ((ho.keepAll hS0).reads.all)
  clear ho hp hS rp rr hS0 hsv
  have hE := stops_plain Hz.out b a x
  rw [HQQ.out] at hE
  have HE := Lib.hid hE
  clear hE
  have r_ := HP.out
  have p0 := r_.cell 0
  have p1 := r_.cell 1
  have p2 := r_.cell 2
  have p3 := r_.cell 3
  have p4 := r_.cell 4
  have p5 := r_.cell 5
  have p6 := r_.cell 6
  have p7 := r_.cell 7
  have p8 := r_.cell 8
  simp only [partCs, cmdCs, repCs, tryCs, stCs, wrCs, List.getElem?_cons_zero, List.getElem?_cons_succ] at p0 p1 p2 p3 p4 p5 p6 p7 p8
  clear r_
  have r_ := B0.out
  have t0 := r_.cell 0
  have t1 := r_.cell 1
  have t2 := r_.cell 2
  have t3 := r_.cell 3
  simp only [partCs, cmdCs, repCs, tryCs, stCs, wrCs, List.getElem?_cons_zero, List.getElem?_cons_succ] at t0 t1 t2 t3
  clear r_
  go_wp2_with (go_at_call 50; refine stopAt ?_)
  unfold Hid
  refine (refind_any (.slice P2 p.done.length p2_) p.done b _ _ HO.out.reads.done).mono ?_
  rintro e w7 ⟨rfl, hS1⟩
  have B0 := Lib.hid (B0.out.keep hS1 trivial)
  have B1 := Lib.hid (B1.out.keep hS1 trivial)
  have B2 := Lib.hid (B2.out.keep hS1 trivial)
  have HP := Lib.hid (HP.out.keep hS1 trivial)
  have HPQ := Lib.hid (HPQ.out.keep hS1 trivial)
  have HRQ := Lib.hid (HRQ.out.keep hS1 trivial)
  have HO := Lib.hid (HO.out.keepAll hS1)
  have HS := Lib.hid (HS.out.trans hS1)
  clear hS1
  have g0 := Row.new w7 93 (outCs (findO p.done b).1)
  have gS := (Same.refl (fun _ => True) w7).alloc (.cells (outCs (findO p.done b).1).toArray 93)
  go_wp2_with (with_reducible refine stopDst 65 rfl ?_)
  unfold Hid
  simp only [outCs, lckCs] at g0 gS
  revert g0 gS
  generalize w7.alloc _ = w8
  intro g0 gS
  have HF := Lib.hid g0
  have B0 := Lib.hid (B0.out.keep gS trivial)
  have B1 := Lib.hid (B1.out.keep gS trivial)
  have B2 := Lib.hid (B2.out.keep gS trivial)
  have HP := Lib.hid (HP.out.keep gS trivial)
  have HPQ := Lib.hid (HPQ.out.keep gS trivial)
  have HRQ := Lib.hid (HRQ.out.keep gS trivial)
  have HO := Lib.hid (HO.out.keepAll gS)
  have HS := Lib.hid (HS.out.trans gS)
  clear g0 gS
  clear p0 p1 p2 p3 p4 p5 p6 p7 p8
  clear t0 t1 t2 t3
  have r_ := HP.out
  have p0 := r_.cell 0
  have p1 := r_.cell 1
  have p2 := r_.cell 2
  have p3 := r_.cell 3
  have p4 := r_.cell 4
  have p5 := r_.cell 5
  have p6 := r_.cell 6
  have p7 := r_.cell 7
  have p8 := r_.cell 8
  simp only [partCs, cmdCs, repCs, tryCs, stCs, wrCs, List.getElem?_cons_zero, List.getElem?_cons_succ] at p0 p1 p2 p3 p4 p5 p6 p7 p8
  clear r_
  have r_ := B2.out
  have k0 := r_.cell 0
  have k1 := r_.cell 1
  have k2 := r_.cell 2
  simp only [partCs, cmdCs, repCs, tryCs, stCs, wrCs, List.getElem?_cons_zero, List.getElem?_cons_succ] at k0 k1 k2
  clear r_
  go_wp2_with (go_at_call 57; refine stopAt ?_)
  unfold Hid
  refine (refheld_any (.slice P0 p.cells.length p0_) p.cells x.key _ _ HO.out.reads.cells Hfin.out.cells.good.sorted (by have := Hfin.out.cells.len (by omega); omega)).mono ?_
  rintro e w9 ⟨rfl, hS1⟩
  have B0 := Lib.hid (B0.out.keep hS1 trivial)
  have B1 := Lib.hid (B1.out.keep hS1 trivial)
  have B2 := Lib.hid (B2.out.keep hS1 trivial)
  have HP := Lib.hid (HP.out.keep hS1 trivial)
  have HPQ := Lib.hid (HPQ.out.keep hS1 trivial)
  have HRQ := Lib.hid (HRQ.out.keep hS1 trivial)
  have HO := Lib.hid (HO.out.keepAll hS1)
  have HS := Lib.hid (HS.out.trans hS1)
  clear hS1
  have g0 := Row.new w9 30 (lckCs (heldF p.cells x.key).1)
  have gS := (Same.refl (fun _ => True) w9).alloc (.cells (lckCs (heldF p.cells x.key).1).toArray 30)
  clear p0 p1 p2 p3 p4 p5 p6 p7 p8
  clear k0 k1 k2
  have hE := HE.out
  cases hf : (findO p.done b).2
  case true =>
    rw [if_pos hf] at hE
    clear hf
    go_wp2_with (with_reducible refine stopDst 74 rfl ?_)
    unfold Hid
    simp only [outCs, lckCs] at g0 gS
    revert g0 gS
    generalize w9.alloc _ = wa
    intro g0 gS
    have HL := Lib.hid g0
    have B0 := Lib.hid (B0.out.keep gS trivial)
    have B1 := Lib.hid (B1.out.keep gS trivial)
    have B2 := Lib.hid (B2.out.keep gS trivial)
    have HP := Lib.hid (HP.out.keep gS trivial)
    have HPQ := Lib.hid (HPQ.out.keep gS trivial)
    have HRQ := Lib.hid (HRQ.out.keep gS trivial)
    have HO := Lib.hid (HO.out.keepAll gS)
    have HS := Lib.hid (HS.out.trans gS)
    clear g0 gS
    have m0 : wa.cell? ⟨w5.heap.size + 1, 0, none⟩ = some (.int .i64 26) := by
      have h_ := HRQ.out.cell 0
      rw [hE] at h_
      exact h_
    clear hE
    go_wp2
    go_ret
    exact ⟨rfl, HS.out⟩
  rw [if_neg (by simp [hf])] at hE
  have HE := Lib.hid hE
  clear hE hf
  go_wp2_with (with_reducible refine stopDst 78 rfl ?_)
  unfold Hid
  simp only [outCs, lckCs] at g0 gS
  revert g0 gS
  generalize w9.alloc _ = wa
  intro g0 gS
  have HL := Lib.hid g0
  have B0 := Lib.hid (B0.out.keep gS trivial)
  have B1 := Lib.hid (B1.out.keep gS trivial)
  have B2 := Lib.hid (B2.out.keep gS trivial)
  have HP := Lib.hid (HP.out.keep gS trivial)
  have HPQ := Lib.hid (HPQ.out.keep gS trivial)
  have HRQ := Lib.hid (HRQ.out.keep gS trivial)
  have HO := Lib.hid (HO.out.keepAll gS)
  have HS := Lib.hid (HS.out.trans gS)
  clear g0 gS
  have r_ := HP.out
  have p0 := r_.cell 0
  have p1 := r_.cell 1
  have p2 := r_.cell 2
  have p3 := r_.cell 3
  have p4 := r_.cell 4
  have p5 := r_.cell 5
  have p6 := r_.cell 6
  have p7 := r_.cell 7
  have p8 := r_.cell 8
  simp only [partCs, cmdCs, repCs, tryCs, stCs, wrCs, List.getElem?_cons_zero, List.getElem?_cons_succ] at p0 p1 p2 p3 p4 p5 p6 p7 p8
  clear r_
  have r_ := B0.out
  have t0 := r_.cell 0
  have t1 := r_.cell 1
  have t2 := r_.cell 2
  have t3 := r_.cell 3
  simp only [partCs, cmdCs, repCs, tryCs, stCs, wrCs, List.getElem?_cons_zero, List.getElem?_cons_succ] at t0 t1 t2 t3
  clear r_
  go_wp2_with (go_at_call 56; refine stopAt ?_)
  unfold Hid
  refine (refmine_any (.slice P0 p.cells.length p0_) p.cells b _ _ HO.out.reads.cells).mono ?_
  rintro e wb ⟨rfl, hS1⟩
  clear p0 p1 p2 p3 p4 p5 p6 p7 p8
  clear t0 t1 t2 t3
  have B0 := Lib.hid (B0.out.keep hS1 trivial)
  have B1 := Lib.hid (B1.out.keep hS1 trivial)
  have B2 := Lib.hid (B2.out.keep hS1 trivial)
  have HP := Lib.hid (HP.out.keep hS1 trivial)
  have HPQ := Lib.hid (HPQ.out.keep hS1 trivial)
  have HRQ := Lib.hid (HRQ.out.keep hS1 trivial)
  have HL := Lib.hid (HL.out.keep hS1 trivial)
  have HO := Lib.hid (HO.out.keepAll hS1)
  have HS := Lib.hid (HS.out.trans hS1)
  clear hS1
  have hE := HE.out
  cases hm : mineF p.cells b
  case true =>
    rw [if_pos hm] at hE
    have m0 : wb.cell? ⟨w5.heap.size + 1, 0, none⟩ = some (.int .i64 0) := by
      have h_ := HRQ.out.cell 0
      rw [hE] at h_
      exact h_
    clear hE
    go_wp2
    go_ret
    exact ⟨rfl, HS.out⟩
  rw [if_neg (by simp [hm])] at hE
  have r_ := HP.out
  have p0 := r_.cell 0
  have p1 := r_.cell 1
  have p2 := r_.cell 2
  have p3 := r_.cell 3
  have p4 := r_.cell 4
  have p5 := r_.cell 5
  have p6 := r_.cell 6
  have p7 := r_.cell 7
  have p8 := r_.cell 8
  simp only [partCs, cmdCs, repCs, tryCs, stCs, wrCs, List.getElem?_cons_zero, List.getElem?_cons_succ] at p0 p1 p2 p3 p4 p5 p6 p7 p8
  clear r_
  have r_ := B1.out
  have a0 := r_.cell 0
  have a1 := r_.cell 1
  simp only [partCs, cmdCs, repCs, tryCs, stCs, wrCs, List.getElem?_cons_zero, List.getElem?_cons_succ] at a0 a1
  clear r_
  by_cases hc : a.wall ≤ p.closed
  · rw [if_pos hc] at hE
    have m0 : wb.cell? ⟨w5.heap.size + 1, 0, none⟩ = some (.int .i64 21) := by
      have h_ := HRQ.out.cell 0
      rw [hE] at h_
      exact h_
    have m1 : wb.cell? ⟨w5.heap.size + 1, 9, none⟩ = some (.int .i64 p.closed) := by
      have h_ := HRQ.out.cell 9
      rw [hE] at h_
      exact h_
    clear hE
    go_wp2
    go_ret
    exact ⟨rfl, HS.out⟩
  rw [if_neg hc] at hE
  have HE := Lib.hid hE
  clear hE
  go_wp2_with (go_at_call 28; refine stopAt ?_)
  unfold Hid
  refine (refless_any a p.floor _).mono ?_
  rintro e wc ⟨rfl, hS1⟩
  clear p0 p1 p2 p3 p4 p5 p6 p7 p8
  clear a0 a1
  have B0 := Lib.hid (B0.out.keep hS1 trivial)
  have B1 := Lib.hid (B1.out.keep hS1 trivial)
  have B2 := Lib.hid (B2.out.keep hS1 trivial)
  have HP := Lib.hid (HP.out.keep hS1 trivial)
  have HPQ := Lib.hid (HPQ.out.keep hS1 trivial)
  have HRQ := Lib.hid (HRQ.out.keep hS1 trivial)
  have HL := Lib.hid (HL.out.keep hS1 trivial)
  have HO := Lib.hid (HO.out.keepAll hS1)
  have HS := Lib.hid (HS.out.trans hS1)
  clear hS1
  have hE := HE.out
  cases hl : lessB a p.floor
  case true =>
    rw [if_pos hl] at hE
    have m0 : wc.cell? ⟨w5.heap.size + 1, 0, none⟩ = some (.int .i64 22) := by
      have h_ := HRQ.out.cell 0
      rw [hE] at h_
      exact h_
    have m1 : wc.cell? ⟨w5.heap.size + 1, 7, none⟩ = some (.int .i64 p.floor.wall) := by
      have h_ := HRQ.out.cell 7
      rw [hE] at h_
      exact h_
    have m2 : wc.cell? ⟨w5.heap.size + 1, 8, none⟩ = some (.int .i64 p.floor.tie) := by
      have h_ := HRQ.out.cell 8
      rw [hE] at h_
      exact h_
    have r_ := HP.out
    have p0 := r_.cell 0
    have p1 := r_.cell 1
    have p2 := r_.cell 2
    have p3 := r_.cell 3
    have p4 := r_.cell 4
    have p5 := r_.cell 5
    have p6 := r_.cell 6
    have p7 := r_.cell 7
    have p8 := r_.cell 8
    simp only [partCs, cmdCs, repCs, tryCs, stCs, wrCs, List.getElem?_cons_zero, List.getElem?_cons_succ] at p0 p1 p2 p3 p4 p5 p6 p7 p8
    clear r_
    clear hE
    go_wp2
    go_ret
    exact ⟨rfl, HS.out⟩
  rw [if_neg (by simp [hl])] at hE
  cases hh : (heldF p.cells x.key).2
  case true =>
    rw [if_pos hh] at hE
    have hL := HL.out
    generalize (heldF p.cells x.key).1 = lk at hE hL
    have m0 : wc.cell? ⟨w5.heap.size + 1, 0, none⟩ = some (.int .i64 20) := by
      have h_ := HRQ.out.cell 0
      rw [hE] at h_
      exact h_
    have m1 : wc.cell? ⟨w5.heap.size + 1, 2, none⟩ = some (.int .i64 lk.by_.node) := by
      have h_ := HRQ.out.cell 2
      rw [hE] at h_
      exact h_
    have m2 : wc.cell? ⟨w5.heap.size + 1, 3, none⟩ = some (.int .i64 lk.by_.life) := by
      have h_ := HRQ.out.cell 3
      rw [hE] at h_
      exact h_
    have m3 : wc.cell? ⟨w5.heap.size + 1, 4, none⟩ = some (.int .i64 lk.by_.seq) := by
      have h_ := HRQ.out.cell 4
      rw [hE] at h_
      exact h_
    have m4 : wc.cell? ⟨w5.heap.size + 1, 5, none⟩ = some (.int .i64 lk.by_.attempt) := by
      have h_ := HRQ.out.cell 5
      rw [hE] at h_
      exact h_
    have m5 : wc.cell? ⟨w5.heap.size + 1, 6, none⟩ = some (.int .i64 lk.home) := by
      have h_ := HRQ.out.cell 6
      rw [hE] at h_
      exact h_
    have m6 : wc.cell? ⟨w5.heap.size + 1, 7, none⟩ = some (.int .i64 lk.at_.wall) := by
      have h_ := HRQ.out.cell 7
      rw [hE] at h_
      exact h_
    have m7 : wc.cell? ⟨w5.heap.size + 1, 8, none⟩ = some (.int .i64 lk.at_.tie) := by
      have h_ := HRQ.out.cell 8
      rw [hE] at h_
      exact h_
    have j0 := hL.cell 0
    have j1 := hL.cell 1
    have j2 := hL.cell 2
    have j3 := hL.cell 3
    have j4 := hL.cell 4
    have j5 := hL.cell 5
    have j6 := hL.cell 6
    have j7 := hL.cell 7
    have j8 := hL.cell 8
    simp only [List.getElem?_cons_zero, List.getElem?_cons_succ] at j0 j1 j2 j3 j4 j5 j6 j7 j8
    clear hE hL
    go_wp2
    go_ret
    exact ⟨rfl, HS.out⟩
  rw [if_neg (by simp [hh])] at hE
  have m0 : wc.cell? ⟨w5.heap.size + 1, 0, none⟩ = some (.int .i64 0) := by
    have h_ := HRQ.out.cell 0
    rw [hE] at h_
    exact h_
  clear hE
  go_wp2
  go_ret
  exact ⟨rfl, HS.out⟩
end Go.Proofs.Ytoldelocfmpccaa
