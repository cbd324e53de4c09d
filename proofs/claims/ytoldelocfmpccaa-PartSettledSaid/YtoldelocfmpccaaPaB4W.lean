/-
  PartSettled: for all commands, a write that was prepared and settled is told from its stamp on, and not ahead of it: the walk.
-/
import Derived.Test.YtoldelocfmpccaaS1
import Derived.Test.YtoldelocfmpccaaS2
import Derived.Test.YtoldelocfmpccaaS3
import Derived.Test.YtoldelocfmpccaaS4
import Derived.Test.YtoldelocfmpccaaS5
import Derived.Test.YtoldelocfmpccaaS6
import Derived.Test.YtoldelocfmpccaaS7
import Derived.Test.YtoldelocfmpccaaS8
import Derived.Test.YtoldelocfmpccaaS9
import Derived.Test.YtoldelocfmpccaaS10
import Derived.Test.YtoldelocfmpccaaS11
import Derived.Test.YtoldelocfmpccaaS12
import Derived.Test.YtoldelocfmpccaaS13
import Derived.Test.YtoldelocfmpccaaS14
set_option linter.unusedSimpArgs false
set_option linter.unusedVariables false
namespace Go.Proofs.Ytoldelocfmpccaa
open Go.RowKit
set_option maxRecDepth 100000 in
set_option maxHeartbeats 8000000 in
theorem settled_walk (v : Value) (l : List CmdM) (b : TryT) (a : St) (x : Wr) (yes : Bool) (t : St) (w : World) (hv : CmdR w (fun k => k < w.heap.size) v l) (hxk : x.key.length ≤ maxLen) (hxd : x.data.length ≤ maxLen) :
    Calls Try.prog 20 #[v, tryV b, stV a, wrV x, .bool yes, stV t] w fun e w' => e = .returned (.bool true) ∧ Same (fun _ => True) w w' := by
  obtain ⟨A, cl, rfl, hlc, hlm⟩ := hv.form
  have Hv := Lib.hid hv
  unfold maxLen at hlm
  clear hv
  unfold maxLen at hxk hxd
  have r0 := (((Row.new w 26 (tryCs b)).keep ((Same.refl (fun _ => True) _).alloc (.cells (stCs a).toArray 28)) trivial).keep ((Same.refl (fun _ => True) _).alloc (.cells (wrCs x).toArray 24)) trivial).keep ((Same.refl (fun _ => True) _).alloc (.cells (stCs t).toArray 28)) trivial
  have r1 := ((Row.new (w.alloc (.cells (tryCs b).toArray 26)) 28 (stCs a)).keep ((Same.refl (fun _ => True) _).alloc (.cells (wrCs x).toArray 24)) trivial).keep ((Same.refl (fun _ => True) _).alloc (.cells (stCs t).toArray 28)) trivial
  rw [World.size_alloc] at r1
  have r2 := (Row.new ((w.alloc (.cells (tryCs b).toArray 26)).alloc (.cells (stCs a).toArray 28)) 24 (wrCs x)).keep ((Same.refl (fun _ => True) _).alloc (.cells (stCs t).toArray 28)) trivial
  rw [World.size_alloc, World.size_alloc] at r2
  have r3 := Row.new (((w.alloc (.cells (tryCs b).toArray 26)).alloc (.cells (stCs a).toArray 28)).alloc (.cells (wrCs x).toArray 24)) 28 (stCs t)
  rw [World.size_alloc, World.size_alloc, World.size_alloc] at r3
  have hS0 := ((((Same.refl (fun _ => True) w).alloc (.cells (tryCs b).toArray 26)).alloc (.cells (stCs a).toArray 28)).alloc (.cells (wrCs x).toArray 24)).alloc (.cells (stCs t).toArray 28)
  have B0 := Lib.hid r0
  have B1 := Lib.hid r1
  have B2 := Lib.hid r2
  have B3 := Lib.hid r3
  have HS := Lib.hid hS0
  clear hS0 r0 r1 r2 r3
  go_enter Try.func20, Try.ntmps20
  go_wp2_with (go_at_call 38; refine stopAt ?_)
  unfold Hid
  refine (begunp_any _).mono ?_
  rintro e w1 ⟨rfl, hS1⟩
  have B0 := Lib.hid (B0.out.keep hS1 trivial)
  have B1 := Lib.hid (B1.out.keep hS1 trivial)
  have B2 := Lib.hid (B2.out.keep hS1 trivial)
  have B3 := Lib.hid (B3.out.keep hS1 trivial)
  have HS := Lib.hid (HS.out.trans hS1)
  clear hS1
  go_wp2_with (go_at_call 39; refine stopAt ?_)
  unfold Hid
  refine (lightk_any (.slice A l.length cl) l 30 _ w1 (Hv.out.keepAll HS.out) (by omega)).mono ?_
  rintro e w2 ⟨bl, rfl, hbl, hS1⟩
  have B0 := Lib.hid (B0.out.keep hS1 trivial)
  have B1 := Lib.hid (B1.out.keep hS1 trivial)
  have B2 := Lib.hid (B2.out.keep hS1 trivial)
  have B3 := Lib.hid (B3.out.keep hS1 trivial)
  have HS := Lib.hid (HS.out.trans hS1)
  clear hS1
  cases bl
  · clear hbl
    go_wp2
    go_ret
    exact ⟨rfl, HS.out⟩
  obtain ⟨hlen, hlw⟩ := hbl rfl
  clear hbl
  have Hlw := Lib.hid hlw
  clear hlw
  have r_ := B2.out
  have k0 := r_.cell 0
  have k1 := r_.cell 1
  have k2 := r_.cell 2
  simp only [partCs, cmdCs, repCs, tryCs, stCs, wrCs, List.getElem?_cons_zero, List.getElem?_cons_succ] at k0 k1 k2
  clear r_
  have s1 : (str x.key).size = x.key.length := str_size _
  have s2 : (str x.data).size = x.data.length := str_size _
  by_cases hb1 : 500 < (x.key.length : Int)
  · go_wp2
    go_ret
    exact ⟨rfl, HS.out⟩
  by_cases hb2 : 500 < (x.data.length : Int)
  · go_wp2
    go_ret
    exact ⟨rfl, HS.out⟩
  go_wp2_with (go_at_call 51; refine stopAt ?_)
  unfold Hid
  refine (run_any (.slice A l.length cl) l _ w2 (Hv.out.keepAll HS.out) (by omega) Hlw.out).mono ?_
  rintro e w3 ⟨va, rfl, hps, hS1⟩
  obtain ⟨Ap, cap, rfl, hp1, hp2⟩ := hps.form
  rw [states_len] at hps hp1 ⊢
  have HPS := Lib.hid hps
  have hS1s := hS1.size
  have B0 := Lib.hid (B0.out.keep hS1 trivial)
  have B1 := Lib.hid (B1.out.keep hS1 trivial)
  have B2 := Lib.hid (B2.out.keep hS1 trivial)
  have B3 := Lib.hid (B3.out.keep hS1 trivial)
  have HS := Lib.hid (HS.out.trans hS1)
  clear hS1 hps
  unfold maxLen at hp2
  clear hS1s k0 k1 k2 s1 s2
  obtain ⟨ap, vc, vr, vd, rfl, hown, p0, hps0⟩ := PartsO.at_ HPS.out (i := l.length) (by rw [states_len]; omega)
  rw [states_at, List.take_length] at hown p0 hps0
  have hfin := fine_run Hlw.out l.length (Nat.le_refl _)
  have hepo := run_epoch (l := l) l.length (Nat.le_refl _)
  rw [List.take_length] at hfin hepo
  generalize runP l = p at *
  obtain ⟨P0, p0_, rfl, hq1, hq2⟩ := hown.cells.form
  obtain ⟨P1, p1_, rfl, hq3, hq4⟩ := OwnR.form hown.recs
  obtain ⟨P2, p2_, rfl, hq5, hq6⟩ := OwnR.form hown.done
  unfold maxLen at hq2 hq4 hq6
  have Hfin := Lib.hid hfin
  have x1 : (0 : Int) ≤ (l.length : Int) := by omega
  have x3 : ((l.length + 1 : Nat) : Int) - 1 = (l.length : Int) := by omega
  have x4 : (l.length : Int) < ((l.length + 1 : Nat) : Int) := by omega
  have p1 := hps0 1 (by omega) (by omega)
  have p2 := hps0 2 (by omega) (by omega)
  have p3 := hps0 3 (by omega) (by omega)
  have p4 := hps0 4 (by omega) (by omega)
  have p5 := hps0 5 (by omega) (by omega)
  have p6 := hps0 6 (by omega) (by omega)
  have p7 := hps0 7 (by omega) (by omega)
  have p8 := hps0 8 (by omega) (by omega)
  simp only [partCs, List.getElem?_cons_zero, List.getElem?_cons_succ] at p1 p2 p3 p4 p5 p6 p7 p8
  have g0 := Row.new w3 77 (partCs (.slice P0 p.cells.length p0_) (.slice P1 p.recs.length p1_) (.slice P2 p.done.length p2_) p)
  have gS := (Same.refl (fun _ => True) w3).alloc (.cells (partCs (.slice P0 p.cells.length p0_) (.slice P1 p.recs.length p1_) (.slice P2 p.done.length p2_) p).toArray 77)
  have HO := Lib.hid hown
  clear hps0 hown hfin
  go_wp2_with (with_reducible refine stopDst 52 rfl ?_)
  unfold Hid
  simp only [partCs] at g0 gS
  revert g0 gS
  generalize w3.alloc _ = w4
  intro g0 gS
  have HP := Lib.hid g0
  have B0 := Lib.hid (B0.out.keep gS trivial)
  have B1 := Lib.hid (B1.out.keep gS trivial)
  have B2 := Lib.hid (B2.out.keep gS trivial)
  have B3 := Lib.hid (B3.out.keep gS trivial)
  have HO := Lib.hid (HO.out.keepAll gS)
  have HS := Lib.hid (HS.out.trans gS)
  clear g0 gS HPS x1 x3 x4
  clear p0 p1 p2 p3 p4 p5 p6 p7 p8
  have r_ := HP.out
  have p0 := r_.cell 0
  have p1 := r_.cell 1
  have p2 := r_.cell 2
  have p3 := r_.cell 3
  have p4 := r_.cell 4
  have p5 := r_.cell 5
  have p6 := r_.cell 6
  have p7 := r_.cell 7
  have p8 := r_.cell 8
  simp only [partCs, cmdCs, repCs, tryCs, stCs, wrCs, List.getElem?_cons_zero, List.getElem?_cons_succ] at p0 p1 p2 p3 p4 p5 p6 p7 p8
  clear r_
  have r_ := B0.out
  have t0 := r_.cell 0
  have t1 := r_.cell 1
  have t2 := r_.cell 2
  have t3 := r_.cell 3
  simp only [partCs, cmdCs, repCs, tryCs, stCs, wrCs, List.getElem?_cons_zero, List.getElem?_cons_succ] at t0 t1 t2 t3
  clear r_
  go_wp2_with (go_at_call 56; refine stopAt ?_)
  unfold Hid
  refine (refmine_any (.slice P0 p.cells.length p0_) p.cells b _ _ HO.out.reads.cells).mono ?_
  rintro e w5 ⟨rfl, hS1⟩
  clear p0 p1 p2 p3 p4 p5 p6 p7 p8
  clear t0 t1 t2 t3
  have B0 := Lib.hid (B0.out.keep hS1 trivial)
  have B1 := Lib.hid (B1.out.keep hS1 trivial)
  have B2 := Lib.hid (B2.out.keep hS1 trivial)
  have B3 := Lib.hid (B3.out.keep hS1 trivial)
  have HP := Lib.hid (HP.out.keep hS1 trivial)
  have HO := Lib.hid (HO.out.keepAll hS1)
  have HS := Lib.hid (HS.out.trans hS1)
  clear hS1
  cases hm : mineF p.cells b
  case true =>
    go_wp2
    go_ret
    exact ⟨rfl, HS.out⟩
  have Hm := Lib.hid hm
  clear hm
  have r_ := HP.out
  have p0 := r_.cell 0
  have p1 := r_.cell 1
  have p2 := r_.cell 2
  have p3 := r_.cell 3
  have p4 := r_.cell 4
  have p5 := r_.cell 5
  have p6 := r_.cell 6
  have p7 := r_.cell 7
  have p8 := r_.cell 8
  simp only [partCs, cmdCs, repCs, tryCs, stCs, wrCs, List.getElem?_cons_zero, List.getElem?_cons_succ] at p0 p1 p2 p3 p4 p5 p6 p7 p8
  clear r_
  have r_ := B0.out
  have t0 := r_.cell 0
  have t1 := r_.cell 1
  have t2 := r_.cell 2
  have t3 := r_.cell 3
  simp only [partCs, cmdCs, repCs, tryCs, stCs, wrCs, List.getElem?_cons_zero, List.getElem?_cons_succ] at t0 t1 t2 t3
  clear r_
  have r_ := B1.out
  have a0 := r_.cell 0
  have a1 := r_.cell 1
  simp only [partCs, cmdCs, repCs, tryCs, stCs, wrCs, List.getElem?_cons_zero, List.getElem?_cons_succ] at a0 a1
  clear r_
  have r_ := B2.out
  have k0 := r_.cell 0
  have k1 := r_.cell 1
  have k2 := r_.cell 2
  simp only [partCs, cmdCs, repCs, tryCs, stCs, wrCs, List.getElem?_cons_zero, List.getElem?_cons_succ] at k0 k1 k2
  clear r_
  have HSX := Lib.hid ((Same.refl (fun _ => True) w5).alloc (.cells (wrCs x).toArray 24))
  go_wp2_with (go_at_call 42; refine stopAt ?_)
  unfold Hid
  have ga := apply_any (100 * l.length) (fun _ => True) (.slice P0 p.cells.length p0_) (.slice P1 p.recs.length p1_) (.slice P2 p.done.length p2_) nilV (.slice (some ⟨w5.heap.size, 0, none⟩) 1 1) p (prep1 p b a x) _ (HO.out.reads.all.keepAll HSX.out) (Hfin.out.toN (by omega)) Hfin.out.cells (by show 100 * l.length + 1 ≤ 100000; omega) (by omega) (RowR.nil_ _ _ _ _ (by simp [maxLen])) (row_one (f := wrCs) (fun _ => rfl) (by omega) (Row.new w5 24 (wrCs x)))
  obtain ⟨QQ, EQ, hQE⟩ : ∃ Q E, applyF p (prep1 p b a x) = (Q, E) := ⟨_, _, rfl⟩
  rw [hQE] at ga
  refine ga.mono ?_
  have HQQ := Lib.hid hQE
  clear hQE
  have B0 := Lib.hid (B0.out.keep HSX.out trivial)
  have B1 := Lib.hid (B1.out.keep HSX.out trivial)
  have B2 := Lib.hid (B2.out.keep HSX.out trivial)
  have B3 := Lib.hid (B3.out.keep HSX.out trivial)
  have HP := Lib.hid (HP.out.keep HSX.out trivial)
  have HO := Lib.hid (HO.out.keepAll HSX.out)
  have HS := Lib.hid (HS.out.trans HSX.out)
  clear HSX
  rintro e w6 ⟨vc, vr, vd, vp, rfl, ho, hp, hS⟩
  clear ga
  obtain ⟨Q0, q0_, rfl, -, hb0⟩ := ho.cells.form
  obtain ⟨Q1, q1_, rfl, -, hb1⟩ := OwnR.form ho.recs
  obtain ⟨Q2, q2_, rfl, -, hb2⟩ := OwnR.form ho.done
  obtain ⟨Q3, q3_, rfl, -, hb3⟩ := OwnP.form hp
  unfold maxLen at hb0 hb1 hb2 hb3
  have rp := (Row.new w6 77 (partCs (.slice Q0 QQ.cells.length q0_) (.slice Q1 QQ.recs.length q1_) (.slice Q2 QQ.done.length q2_) QQ)).keep ((Same.refl (fun _ => True) _).alloc (.cells (repCs (.slice Q3 EQ.pairs.length q3_) EQ).toArray 85)) trivial
  have rr := Row.new (w6.alloc (.cells (partCs (.slice Q0 QQ.cells.length q0_) (.slice Q1 QQ.recs.length q1_) (.slice Q2 QQ.done.length q2_) QQ).toArray 77)) 85 (repCs (.slice Q3 EQ.pairs.length q3_) EQ)
  rw [World.size_alloc] at rr
  have hS0 := ((Same.refl (fun _ => True) w6).alloc (.cells (partCs (.slice Q0 QQ.cells.length q0_) (.slice Q1 QQ.recs.length q1_) (.slice Q2 QQ.done.length q2_) QQ).toArray 77)).alloc (.cells (repCs (.slice Q3 EQ.pairs.length q3_) EQ).toArray 85)
  clear p0 p1 p2 p3 p4 p5 p6 p7 p8
  clear t0 t1 t2 t3
  clear a0 a1
  clear k0 k1 k2
  go_wp2_with (with_reducible refine stopDst 68 rfl ?_)
  unfold Hid
  simp only [partCs, repCs] at rp rr hS0
  revert rp rr hS0
  generalize (w6.alloc _).alloc _ = w7
  intro rp rr hS0
  have hsv := hS.trans hS0
  have B0 := Lib.hid (B0.out.keep hsv trivial)
  have B1 := Lib.hid (B1.out.keep hsv trivial)
  have B2 := Lib.hid (B2.out.keep hsv trivial)
  have B3 := Lib.hid (B3.out.keep hsv trivial)
  have HP := Lib.hid (HP.out.keep hsv trivial)
  have HO := Lib.hid (HO.out.keepAll hsv)
  have HS := Lib.hid (HS.out.trans hsv)
  have HPQ := Lib.hid rp
  have HRQ := Lib.hid rr
  have HOQ := Lib.hid ((ho.keepAll hS0).reads.all)
  clear ho hp hS rp rr hS0 hsv
  have m0 : w7.cell? ⟨w6.heap.size + 1, 0, none⟩ = some (.int .i64 EQ.err) := HRQ.out.cell 0
  by_cases hz : EQ.err = 0
  case neg =>
    have k9 : (EQ.err != 0) = true := by simpa using hz
    have hq : QQ = p := by
      have := apply_err (p := p) (c := prep1 p b a x) (by rw [HQQ.out]; exact hz)
      rw [HQQ.out] at this
      exact this
    subst hq
    clear hz
    have r_ := HP.out
    have p0 := r_.cell 0
    have p1 := r_.cell 1
    have p2 := r_.cell 2
    have p3 := r_.cell 3
    have p4 := r_.cell 4
    have p5 := r_.cell 5
    have p6 := r_.cell 6
    have p7 := r_.cell 7
    have p8 := r_.cell 8
    simp only [partCs, cmdCs, repCs, tryCs, stCs, wrCs, List.getElem?_cons_zero, List.getElem?_cons_succ] at p0 p1 p2 p3 p4 p5 p6 p7 p8
    clear r_
    have r_ := HPQ.out
    have n0 := r_.cell 0
    have n1 := r_.cell 1
    have n2 := r_.cell 2
    have n3 := r_.cell 3
    have n4 := r_.cell 4
    have n5 := r_.cell 5
    have n6 := r_.cell 6
    have n7 := r_.cell 7
    have n8 := r_.cell 8
    simp only [partCs, cmdCs, repCs, tryCs, stCs, wrCs, List.getElem?_cons_zero, List.getElem?_cons_succ] at n0 n1 n2 n3 n4 n5 n6 n7 n8
    clear r_
    go_wp2_with (go_at_call 44; refine stopAt ?_)
    unfold Hid
    refine (samepart_any _ _ _ _ _ _ QQ _ _ w7 (HO.out.reads.all) HOQ.out (Hfin.out.toN (by omega))).mono ?_
    rintro e wz ⟨rfl, hSx⟩
    have HS := Lib.hid (HS.out.trans hSx)
    have HSx := Lib.hid hSx
    clear hSx
    go_wp2
    go_ret
    exact ⟨rfl, HS.out⟩
  have k9 : (EQ.err != 0) = false := by simp [hz]
  have HfQ := Lib.hid (show FineP (100 * l.length + 1 + 1) QQ by
    have := fine_step Hfin.out (apply_step p (prep1 p b a x))
    rw [HQQ.out] at this
    exact this)
  have hc0 := settled_plain Hfin.out.cells.good b a x yes Hm.out (by rw [HQQ.out]; exact hz)
  rw [HQQ.out] at hc0
  have Hc0 := Lib.hid hc0
  clear hz hc0
  have hepq := HfQ.out.epoch
  have r_ := HP.out
  have p0 := r_.cell 0
  have p1 := r_.cell 1
  have p2 := r_.cell 2
  have p3 := r_.cell 3
  have p4 := r_.cell 4
  have p5 := r_.cell 5
  have p6 := r_.cell 6
  have p7 := r_.cell 7
  have p8 := r_.cell 8
  simp only [partCs, cmdCs, repCs, tryCs, stCs, wrCs, List.getElem?_cons_zero, List.getElem?_cons_succ] at p0 p1 p2 p3 p4 p5 p6 p7 p8
  clear r_
  have r_ := HPQ.out
  have n0 := r_.cell 0
  have n1 := r_.cell 1
  have n2 := r_.cell 2
  have n3 := r_.cell 3
  have n4 := r_.cell 4
  have n5 := r_.cell 5
  have n6 := r_.cell 6
  have n7 := r_.cell 7
  have n8 := r_.cell 8
  simp only [partCs, cmdCs, repCs, tryCs, stCs, wrCs, List.getElem?_cons_zero, List.getElem?_cons_succ] at n0 n1 n2 n3 n4 n5 n6 n7 n8
  clear r_
  have r_ := B0.out
  have t0 := r_.cell 0
  have t1 := r_.cell 1
  have t2 := r_.cell 2
  have t3 := r_.cell 3
  simp only [partCs, cmdCs, repCs, tryCs, stCs, wrCs, List.getElem?_cons_zero, List.getElem?_cons_succ] at t0 t1 t2 t3
  clear r_
  go_wp2_with (go_at_call 42; refine stopAt ?_)
  unfold Hid
  have ga := apply_any (100 * l.length + 1 + 1) (fun _ => True) (.slice Q0 QQ.cells.length q0_) (.slice Q1 QQ.recs.length q1_) (.slice Q2 QQ.done.length q2_) nilV nilV QQ (setl1 p b yes) _ HOQ.out (HfQ.out.toN (by omega)) HfQ.out.cells (by show 100 * l.length + 1 + 1 + 0 ≤ 100000; omega) (by omega) (RowR.nil_ _ _ _ _ (by simp [maxLen])) (RowR.nil_ _ _ _ _ (by simp [maxLen]))
  obtain ⟨QR, ER, hQE⟩ : ∃ Q E, applyF QQ (setl1 p b yes) = (Q, E) := ⟨_, _, rfl⟩
  rw [hQE] at ga
  refine ga.mono ?_
  have HQR := Lib.hid hQE
  clear hQE
  rintro e w8 ⟨vc, vr, vd, vp, rfl, ho, hp, hS⟩
  clear ga
  obtain ⟨R0, r0_, rfl, -, hb0⟩ := ho.cells.form
  obtain ⟨R1, r1_, rfl, -, hb1⟩ := OwnR.form ho.recs
  obtain ⟨R2, r2_, rfl, -, hb2⟩ := OwnR.form ho.done
  obtain ⟨R3, r3_, rfl, -, hb3⟩ := OwnP.form hp
  unfold maxLen at hb0 hb1 hb2 hb3
  have rp := (Row.new w8 77 (partCs (.slice R0 QR.cells.length r0_) (.slice R1 QR.recs.length r1_) (.slice R2 QR.done.length r2_) QR)).keep ((Same.refl (fun _ => True) _).alloc (.cells (repCs (.slice R3 ER.pairs.length r3_) ER).toArray 85)) trivial
  have rr := Row.new (w8.alloc (.cells (partCs (.slice R0 QR.cells.length r0_) (.slice R1 QR.recs.length r1_) (.slice R2 QR.done.length r2_) QR).toArray 77)) 85 (repCs (.slice R3 ER.pairs.length r3_) ER)
  rw [World.size_alloc] at rr
  have hS0 := ((Same.refl (fun _ => True) w8).alloc (.cells (partCs (.slice R0 QR.cells.length r0_) (.slice R1 QR.recs.length r1_) (.slice R2 QR.done.length r2_) QR).toArray 77)).alloc (.cells (repCs (.slice R3 ER.pairs.length r3_) ER).toArray 85)
  clear p0 p1 p2 p3 p4 p5 p6 p7 p8
  clear n0 n1 n2 n3 n4 n5 n6 n7 n8
  clear t0 t1 t2 t3
  clear k9 m0
  go_wp2_with (with_reducible refine stopDst 85 rfl ?_)
  unfold Hid
  simp only [partCs, repCs] at rp rr hS0
  revert rp rr hS0
  generalize (w8.alloc _).alloc _ = w9
  intro rp rr hS0
  have hsv := hS.trans hS0
  have B0 := Lib.hid (B0.out.keep hsv trivial)
  have B1 := Lib.hid (B1.out.keep hsv trivial)
  have B2 := Lib.hid (B2.out.keep hsv trivial)
  have B3 := Lib.hid (B3.out.keep hsv trivial)
  have HP := Lib.hid (HP.out.keep hsv trivial)
  have HPQ := Lib.hid (HPQ.out.keep hsv trivial)
  have HRQ := Lib.hid (HRQ.out.keep hsv trivial)
  have HO := Lib.hid (HO.out.keepAll hsv)
  have HOQ := Lib.hid (HOQ.out.keepAll hsv)
  have HS := Lib.hid (HS.out.trans hsv)
  have HPR := Lib.hid rp
  have HRR := Lib.hid rr
  have HOR := Lib.hid ((ho.keepAll hS0).reads.all)
  clear ho hp hS rp rr hS0 hsv
  have hc0 := Hc0.out
  rw [HQR.out] at hc0
  dsimp only at hc0
  have HfR := Lib.hid (show FineP (100 * l.length + 1 + 1 + 0 + 1) QR by
    have := fine_step HfQ.out (apply_step QQ (setl1 p b yes))
    rw [HQR.out] at this
    exact this)
  have Hp1 := Lib.hid (show lessB t a = true ∨ yes = false → getF QR.cells x.key t = getF p.cells x.key t by rw [hc0]; exact (past_plain Hfin.out.cells.good x ⟨b, 0, a, false, []⟩ Hm.out yes t).1)
  have Hp2 := Lib.hid (show yes = true → getF QR.cells x.key a = if x.drop = true then ([], false) else (x.data, true) by rw [hc0]; exact (past_plain Hfin.out.cells.good x ⟨b, 0, a, false, []⟩ Hm.out yes a).2)
  have Hp3 := Lib.hid (show (heldF QR.cells x.key).2 = false by rw [hc0]; exact held_gone Hfin.out.cells.good x ⟨b, 0, a, false, []⟩ Hm.out yes)
  clear hc0 Hc0
  have r_ := HP.out
  have p0 := r_.cell 0
  have p1 := r_.cell 1
  have p2 := r_.cell 2
  have p3 := r_.cell 3
  have p4 := r_.cell 4
  have p5 := r_.cell 5
  have p6 := r_.cell 6
  have p7 := r_.cell 7
  have p8 := r_.cell 8
  simp only [partCs, cmdCs, repCs, tryCs, stCs, wrCs, List.getElem?_cons_zero, List.getElem?_cons_succ] at p0 p1 p2 p3 p4 p5 p6 p7 p8
  clear r_
  have r_ := B2.out
  have k0 := r_.cell 0
  have k1 := r_.cell 1
  have k2 := r_.cell 2
  simp only [partCs, cmdCs, repCs, tryCs, stCs, wrCs, List.getElem?_cons_zero, List.getElem?_cons_succ] at k0 k1 k2
  clear r_
  have r_ := B3.out
  have t0 := r_.cell 0
  have t1 := r_.cell 1
  simp only [partCs, cmdCs, repCs, tryCs, stCs, wrCs, List.getElem?_cons_zero, List.getElem?_cons_succ] at t0 t1
  clear r_
  go_wp2_with (go_at_call 58; refine stopAt ?_)
  unfold Hid
  refine (refget_any (.slice P0 p.cells.length p0_) p.cells x.key t _ _ HO.out.reads.cells Hfin.out.cells.good.sorted).mono ?_
  rintro e wa ⟨rfl, hS1⟩
  clear p0 p1 p2 p3 p4 p5 p6 p7 p8
  clear k0 k1 k2
  clear t0 t1
  have B0 := Lib.hid (B0.out.keep hS1 trivial)
  have B1 := Lib.hid (B1.out.keep hS1 trivial)
  have B2 := Lib.hid (B2.out.keep hS1 trivial)
  have B3 := Lib.hid (B3.out.keep hS1 trivial)
  have HP := Lib.hid (HP.out.keep hS1 trivial)
  have HPR := Lib.hid (HPR.out.keep hS1 trivial)
  have HO := Lib.hid (HO.out.keepAll hS1)
  have HOR := Lib.hid (HOR.out.keepAll hS1)
  have HS := Lib.hid (HS.out.trans hS1)
  clear hS1
  have r_ := HPR.out
  have p0 := r_.cell 0
  have p1 := r_.cell 1
  have p2 := r_.cell 2
  have p3 := r_.cell 3
  have p4 := r_.cell 4
  have p5 := r_.cell 5
  have p6 := r_.cell 6
  have p7 := r_.cell 7
  have p8 := r_.cell 8
  simp only [partCs, cmdCs, repCs, tryCs, stCs, wrCs, List.getElem?_cons_zero, List.getElem?_cons_succ] at p0 p1 p2 p3 p4 p5 p6 p7 p8
  clear r_
  have r_ := B2.out
  have k0 := r_.cell 0
  have k1 := r_.cell 1
  have k2 := r_.cell 2
  simp only [partCs, cmdCs, repCs, tryCs, stCs, wrCs, List.getElem?_cons_zero, List.getElem?_cons_succ] at k0 k1 k2
  clear r_
  have r_ := B3.out
  have t0 := r_.cell 0
  have t1 := r_.cell 1
  simp only [partCs, cmdCs, repCs, tryCs, stCs, wrCs, List.getElem?_cons_zero, List.getElem?_cons_succ] at t0 t1
  clear r_
  go_wp2_with (go_at_call 58; refine stopAt ?_)
  unfold Hid
  refine (refget_any (.slice R0 QR.cells.length r0_) QR.cells x.key t _ _ HOR.out.cells HfR.out.cells.good.sorted).mono ?_
  rintro e wb ⟨rfl, hS1⟩
  clear p0 p1 p2 p3 p4 p5 p6 p7 p8
  clear k0 k1 k2
  clear t0 t1
  have B0 := Lib.hid (B0.out.keep hS1 trivial)
  have B1 := Lib.hid (B1.out.keep hS1 trivial)
  have B2 := Lib.hid (B2.out.keep hS1 trivial)
  have B3 := Lib.hid (B3.out.keep hS1 trivial)
  have HP := Lib.hid (HP.out.keep hS1 trivial)
  have HPR := Lib.hid (HPR.out.keep hS1 trivial)
  have HO := Lib.hid (HO.out.keepAll hS1)
  have HOR := Lib.hid (HOR.out.keepAll hS1)
  have HS := Lib.hid (HS.out.trans hS1)
  clear hS1
  cases yes
  case false =>
    rw [Hp1.out (.inr rfl)]
    generalize getF p.cells x.key t = g1
    go_wp2
    go_ret
    exact ⟨rfl, HS.out⟩
  have r_ := B1.out
  have a0 := r_.cell 0
  have a1 := r_.cell 1
  simp only [partCs, cmdCs, repCs, tryCs, stCs, wrCs, List.getElem?_cons_zero, List.getElem?_cons_succ] at a0 a1
  clear r_
  have r_ := B3.out
  have t0 := r_.cell 0
  have t1 := r_.cell 1
  simp only [partCs, cmdCs, repCs, tryCs, stCs, wrCs, List.getElem?_cons_zero, List.getElem?_cons_succ] at t0 t1
  clear r_
  go_wp2_with (go_at_call 28; refine stopAt ?_)
  unfold Hid
  refine (refless_any t a _).mono ?_
  rintro e wc ⟨rfl, hS1⟩
  clear a0 a1
  clear t0 t1
  have B0 := Lib.hid (B0.out.keep hS1 trivial)
  have B1 := Lib.hid (B1.out.keep hS1 trivial)
  have B2 := Lib.hid (B2.out.keep hS1 trivial)
  have B3 := Lib.hid (B3.out.keep hS1 trivial)
  have HP := Lib.hid (HP.out.keep hS1 trivial)
  have HPR := Lib.hid (HPR.out.keep hS1 trivial)
  have HO := Lib.hid (HO.out.keepAll hS1)
  have HOR := Lib.hid (HOR.out.keepAll hS1)
  have HS := Lib.hid (HS.out.trans hS1)
  clear hS1
  cases hl : lessB t a
  case true =>
    rw [Hp1.out (.inl hl)]
    clear hl
    generalize getF p.cells x.key t = g1
    go_wp2
    go_ret
    exact ⟨rfl, HS.out⟩
  clear hl Hp1
  generalize getF p.cells x.key t = g1
  generalize getF QR.cells x.key t = g2
  have r_ := HPR.out
  have p0 := r_.cell 0
  have p1 := r_.cell 1
  have p2 := r_.cell 2
  have p3 := r_.cell 3
  have p4 := r_.cell 4
  have p5 := r_.cell 5
  have p6 := r_.cell 6
  have p7 := r_.cell 7
  have p8 := r_.cell 8
  simp only [partCs, cmdCs, repCs, tryCs, stCs, wrCs, List.getElem?_cons_zero, List.getElem?_cons_succ] at p0 p1 p2 p3 p4 p5 p6 p7 p8
  clear r_
  have r_ := B2.out
  have k0 := r_.cell 0
  have k1 := r_.cell 1
  have k2 := r_.cell 2
  simp only [partCs, cmdCs, repCs, tryCs, stCs, wrCs, List.getElem?_cons_zero, List.getElem?_cons_succ] at k0 k1 k2
  clear r_
  have r_ := B1.out
  have a0 := r_.cell 0
  have a1 := r_.cell 1
  simp only [partCs, cmdCs, repCs, tryCs, stCs, wrCs, List.getElem?_cons_zero, List.getElem?_cons_succ] at a0 a1
  clear r_
  go_wp2_with (go_at_call 58; refine stopAt ?_)
  unfold Hid
  refine (refget_any (.slice R0 QR.cells.length r0_) QR.cells x.key a _ _ HOR.out.cells HfR.out.cells.good.sorted).mono ?_
  rintro e wd ⟨rfl, hS1⟩
  clear p0 p1 p2 p3 p4 p5 p6 p7 p8
  clear k0 k1 k2
  clear a0 a1
  have B0 := Lib.hid (B0.out.keep hS1 trivial)
  have B1 := Lib.hid (B1.out.keep hS1 trivial)
  have B2 := Lib.hid (B2.out.keep hS1 trivial)
  have B3 := Lib.hid (B3.out.keep hS1 trivial)
  have HP := Lib.hid (HP.out.keep hS1 trivial)
  have HPR := Lib.hid (HPR.out.keep hS1 trivial)
  have HO := Lib.hid (HO.out.keepAll hS1)
  have HOR := Lib.hid (HOR.out.keepAll hS1)
  have HS := Lib.hid (HS.out.trans hS1)
  clear hS1
  rw [Hp2.out trivial]
  rcases (by cases x.drop <;> simp : x.drop = true ∨ x.drop = false) with hd | hd
  · rw [if_pos hd]
    have r_ := HPR.out
    have p0 := r_.cell 0
    have p1 := r_.cell 1
    have p2 := r_.cell 2
    have p3 := r_.cell 3
    have p4 := r_.cell 4
    have p5 := r_.cell 5
    have p6 := r_.cell 6
    have p7 := r_.cell 7
    have p8 := r_.cell 8
    simp only [partCs, cmdCs, repCs, tryCs, stCs, wrCs, List.getElem?_cons_zero, List.getElem?_cons_succ] at p0 p1 p2 p3 p4 p5 p6 p7 p8
    clear r_
    have r_ := B2.out
    have k0 := r_.cell 0
    have k1 := r_.cell 1
    have k2 := r_.cell 2
    simp only [partCs, cmdCs, repCs, tryCs, stCs, wrCs, List.getElem?_cons_zero, List.getElem?_cons_succ] at k0 k1 k2
    clear r_
    go_wp2_with (go_at_call 57; refine stopAt ?_)
    unfold Hid
    refine (refheld_any (.slice R0 QR.cells.length r0_) QR.cells x.key _ _ HOR.out.cells HfR.out.cells.good.sorted (by have := HfR.out.cells.len (by omega); omega)).mono ?_
    rintro e we ⟨rfl, hS1⟩
    clear p0 p1 p2 p3 p4 p5 p6 p7 p8
    clear k0 k1 k2
    have B0 := Lib.hid (B0.out.keep hS1 trivial)
    have B1 := Lib.hid (B1.out.keep hS1 trivial)
    have B2 := Lib.hid (B2.out.keep hS1 trivial)
    have B3 := Lib.hid (B3.out.keep hS1 trivial)
    have HP := Lib.hid (HP.out.keep hS1 trivial)
    have HPR := Lib.hid (HPR.out.keep hS1 trivial)
    have HO := Lib.hid (HO.out.keepAll hS1)
    have HOR := Lib.hid (HOR.out.keepAll hS1)
    have HS := Lib.hid (HS.out.trans hS1)
    clear hS1
    rw [Hp3.out]
    generalize (heldF QR.cells x.key).1 = lk
    have HSX := Lib.hid ((Same.refl (fun _ => True) we).alloc (.cells (lckCs lk).toArray 30))
    have r_ := B2.out
    have k0 := r_.cell 0
    have k1 := r_.cell 1
    have k2 := r_.cell 2
    simp only [partCs, cmdCs, repCs, tryCs, stCs, wrCs, List.getElem?_cons_zero, List.getElem?_cons_succ] at k0 k1 k2
    clear r_
    rw [hd] at k1
    clear hd
    have zz := B2.out.lt
    go_wp2
    go_ret
    exact ⟨rfl, HS.out.trans HSX.out⟩
  · rw [if_neg (by simp [hd])]
    have r_ := HPR.out
    have p0 := r_.cell 0
    have p1 := r_.cell 1
    have p2 := r_.cell 2
    have p3 := r_.cell 3
    have p4 := r_.cell 4
    have p5 := r_.cell 5
    have p6 := r_.cell 6
    have p7 := r_.cell 7
    have p8 := r_.cell 8
    simp only [partCs, cmdCs, repCs, tryCs, stCs, wrCs, List.getElem?_cons_zero, List.getElem?_cons_succ] at p0 p1 p2 p3 p4 p5 p6 p7 p8
    clear r_
    have r_ := B2.out
    have k0 := r_.cell 0
    have k1 := r_.cell 1
    have k2 := r_.cell 2
    simp only [partCs, cmdCs, repCs, tryCs, stCs, wrCs, List.getElem?_cons_zero, List.getElem?_cons_succ] at k0 k1 k2
    clear r_
    go_wp2_with (go_at_call 57; refine stopAt ?_)
    unfold Hid
    refine (refheld_any (.slice R0 QR.cells.length r0_) QR.cells x.key _ _ HOR.out.cells HfR.out.cells.good.sorted (by have := HfR.out.cells.len (by omega); omega)).mono ?_
    rintro e we ⟨rfl, hS1⟩
    clear p0 p1 p2 p3 p4 p5 p6 p7 p8
    clear k0 k1 k2
    have B0 := Lib.hid (B0.out.keep hS1 trivial)
    have B1 := Lib.hid (B1.out.keep hS1 trivial)
    have B2 := Lib.hid (B2.out.keep hS1 trivial)
    have B3 := Lib.hid (B3.out.keep hS1 trivial)
    have HP := Lib.hid (HP.out.keep hS1 trivial)
    have HPR := Lib.hid (HPR.out.keep hS1 trivial)
    have HO := Lib.hid (HO.out.keepAll hS1)
    have HOR := Lib.hid (HOR.out.keepAll hS1)
    have HS := Lib.hid (HS.out.trans hS1)
    clear hS1
    rw [Hp3.out]
    generalize (heldF QR.cells x.key).1 = lk
    have HSX := Lib.hid ((Same.refl (fun _ => True) we).alloc (.cells (lckCs lk).toArray 30))
    have r_ := B2.out
    have k0 := r_.cell 0
    have k1 := r_.cell 1
    have k2 := r_.cell 2
    simp only [partCs, cmdCs, repCs, tryCs, stCs, wrCs, List.getElem?_cons_zero, List.getElem?_cons_succ] at k0 k1 k2
    clear r_
    rw [hd] at k1
    clear hd
    have zz := B2.out.lt
    go_wp2
    go_ret
    exact ⟨rfl, HS.out.trans HSX.out⟩
end Go.Proofs.Ytoldelocfmpccaa
