/-
  PartDecides: for all commands, an attempt that has an outcome has it for ever, and what never goes back does not: the walk.
-/
import Derived.Test.YtoldelocfmpccaaS1
import Derived.Test.YtoldelocfmpccaaS2
import Derived.Test.YtoldelocfmpccaaS3
import Derived.Test.YtoldelocfmpccaaS4
import Derived.Test.YtoldelocfmpccaaS5
import Derived.Test.YtoldelocfmpccaaS6
import Derived.Test.YtoldelocfmpccaaS7
import Derived.Test.YtoldelocfmpccaaS8
import Derived.Test.YtoldelocfmpccaaS9
import Derived.Test.YtoldelocfmpccaaS10
import Derived.Test.YtoldelocfmpccaaS11
import Derived.Test.YtoldelocfmpccaaS12
import Derived.Test.YtoldelocfmpccaaS13
import Derived.Test.YtoldelocfmpccaaS14
set_option linter.unusedSimpArgs false
set_option linter.unusedVariables false
namespace Go.Proofs.Ytoldelocfmpccaa
open Go.RowKit
set_option maxRecDepth 100000 in
set_option maxHeartbeats 8000000 in
theorem decides_walk (v : Value) (l : List CmdM) (w : World) (hv : CmdR w (fun k => k < w.heap.size) v l) :
    Calls Try.prog 15 #[v] w fun e w' => e = .returned (.bool true) ∧ Same (fun _ => True) w w' := by
  obtain ⟨A, cl, rfl, hlc, hlm⟩ := hv.form
  have Hv := Lib.hid hv
  unfold maxLen at hlm
  clear hv
  have HS := Lib.hid (Same.refl (fun _ => True) w)
  go_enter Try.func15, Try.ntmps15
  go_wp2_with (go_at_call 38; refine stopAt ?_)
  unfold Hid
  refine (begunp_any _).mono ?_
  rintro e w1 ⟨rfl, hS1⟩
  have HS := Lib.hid (HS.out.trans hS1)
  clear hS1
  go_wp2_with (go_at_call 39; refine stopAt ?_)
  unfold Hid
  refine (lightk_any (.slice A l.length cl) l 60 _ w1 (Hv.out.keepAll HS.out) (by omega)).mono ?_
  rintro e w2 ⟨bl, rfl, hbl, hS1⟩
  have HS := Lib.hid (HS.out.trans hS1)
  clear hS1
  cases bl
  · clear hbl
    go_wp2
    go_ret
    exact ⟨rfl, HS.out⟩
  obtain ⟨hlen, hlw⟩ := hbl rfl
  clear hbl
  have Hlw := Lib.hid hlw
  clear hlw
  go_wp2_with (go_at_call 51; refine stopAt ?_)
  unfold Hid
  refine (run_any (.slice A l.length cl) l _ w2 (Hv.out.keepAll HS.out) (by omega) Hlw.out).mono ?_
  rintro e w3 ⟨va, rfl, hps, hS1⟩
  obtain ⟨Ap, cap, rfl, hp1, hp2⟩ := hps.form
  rw [states_len] at hps hp1 ⊢
  have HPS := Lib.hid hps
  have hS1s := hS1.size
  have HS := Lib.hid (HS.out.trans hS1)
  clear hS1 hps
  unfold maxLen at hp2
  clear hS1s
  have HSa := Lib.hid HS.out
  have hne := out_ne
  go_wp2
  go_loopw [4] (fun i wr => ∃ k : Nat, i = .int .i64 k ∧ 1 ≤ k ∧ k ≤ l.length + 1 ∧ Same (fun _ => True) w3 wr) (fun i _ => l.length + 1 - (intOf i).toNat)
  case atStart => exact ⟨1, rfl, by omega, by omega, Same.refl _ _⟩
  case round =>
    obtain ⟨k, rfl, hk0, hk, hS⟩ := hrel
    have HSr := Lib.hid hS
    have HS := Lib.hid (HSa.out.trans hS)
    by_cases hlt : k < l.length + 1
    · obtain ⟨j, rfl⟩ : ∃ j, k = j + 1 := ⟨k - 1, by omega⟩
      have HPn := HPS.out.keepAll hS
      obtain ⟨ap, vc, vr, vd, rfl, hown, p0, hps0⟩ := PartsO.at_ HPn (i := j) (by rw [states_len]; omega)
      obtain ⟨ap', vc', vr', vd', hap, hown', n0, hps1⟩ := PartsO.at_ HPn (i := j + 1) (by rw [states_len]; omega)
      injection hap with hap
      subst hap
      rw [states_at] at hown p0 hps0
      rw [states_at] at hown' n0 hps1
      have hst := apply_step (runP (l.take j)) (ownF (runP (l.take j)) (l[j]'(by omega)) false)
      have hrs := runP_step (l := l) (k := j) (by omega)
      have Hq := Lib.hid (show StepP (runP (l.take j)) (ownF (runP (l.take j)) (l[j]'(by omega)) false) (runP (l.take (j + 1))) by rw [hrs]; exact hst)
      clear hst hrs hS HPn
      generalize runP (l.take (j + 1)) = q at *
      generalize runP (l.take j) = p at *
      have hfl := step_floor Hq.out
      have hwl := step_walls Hq.out
      obtain ⟨⟨t1, ht1⟩, t2, ht2⟩ := step_lists Hq.out
      obtain ⟨P0, p0_, rfl, hq1, hq2⟩ := hown.cells.form
      obtain ⟨P1, p1_, rfl, hq3, hq4⟩ := OwnR.form hown.recs
      obtain ⟨P2, p2_, rfl, hq5, hq6⟩ := OwnR.form hown.done
      obtain ⟨Q0, q0_, rfl, hq7, hq8⟩ := hown'.cells.form
      obtain ⟨Q1, q1_, rfl, hq9, hqa⟩ := OwnR.form hown'.recs
      obtain ⟨Q2, q2_, rfl, hqb, hqc⟩ := OwnR.form hown'.done
      unfold maxLen at hq2 hq4 hq6 hq8 hqa hqc
      have Ht1 := Lib.hid ht1
      have Ht2 := Lib.hid ht2
      have hl1 : p.recs.length ≤ q.recs.length := by rw [ht1]; simp
      have hl2 : p.done.length ≤ q.done.length := by rw [ht2]; simp
      clear ht1 ht2
      have x1 : (0 : Int) ≤ ((j + 1 : Nat) : Int) - 1 := by omega
      have x2 : ((j + 1 : Nat) : Int) - 1 = (j : Int) := by omega
      have x3 : (j : Int) < ((l.length + 1 : Nat) : Int) := by omega
      have x4 : ((j + 1 : Nat) : Int) < ((l.length + 1 : Nat) : Int) := by omega
      have x5 : (0 : Int) ≤ (j : Int) := by omega
      have x6 : (j : Int) < (l.length : Int) + 1 := by omega
      have x7 : (0 : Int) ≤ (j : Int) + 1 := by omega
      have x8 : (j : Int) + 1 < (l.length : Int) + 1 := by omega
      have y1 : j < l.length := by omega
      have y2 : j ≤ l.length := by omega
      have y3 : (j : Int) ≤ (l.length : Int) := by omega
      have y4 : (j : Int) < (l.length : Int) := by omega
      have y5 : IntKind.i64.wrap (((j + 1 : Nat) : Int) - 1) = (j : Int) := by rw [IntKind.wrap_i64]; omega
      have y6 : IntKind.i64.wrap ((j : Int) + 1 - 1) = (j : Int) := by rw [IntKind.wrap_i64]; omega
      have y7 : ((j : Int) + 1).toNat = j + 1 := by omega
      have y8 : IntKind.i64.wrap (j : Int) = (j : Int) := by rw [IntKind.wrap_i64]; omega
      have HO := Lib.hid hown
      have HN := Lib.hid hown'
      have p1 := hps0 1 (by omega) (by omega)
      have p2 := hps0 2 (by omega) (by omega)
      have p3 := hps0 3 (by omega) (by omega)
      have p4 := hps0 4 (by omega) (by omega)
      have p5 := hps0 5 (by omega) (by omega)
      have p6 := hps0 6 (by omega) (by omega)
      have p7 := hps0 7 (by omega) (by omega)
      have p8 := hps0 8 (by omega) (by omega)
      have n1 := hps1 1 (by omega) (by omega)
      have n2 := hps1 2 (by omega) (by omega)
      have n3 := hps1 3 (by omega) (by omega)
      have n4 := hps1 4 (by omega) (by omega)
      have n5 := hps1 5 (by omega) (by omega)
      have n6 := hps1 6 (by omega) (by omega)
      have n7 := hps1 7 (by omega) (by omega)
      have n8 := hps1 8 (by omega) (by omega)
      simp only [partCs, List.getElem?_cons_zero, List.getElem?_cons_succ] at p1 n1 p2 n2 p3 n3 p4 n4 p5 n5 p6 n6 p7 n7 p8 n8
      have Hfw := Lib.hid (And.intro hfl (And.intro hwl (And.intro hl1 hl2)))
      clear hown hown' hps0 hps1 hfl hwl hl1 hl2
      have rA := (Row.new wr 77 (partCs (.slice P0 p.cells.length p0_) (.slice P1 p.recs.length p1_) (.slice P2 p.done.length p2_) p)).keep ((Same.refl (fun _ => True) _).alloc (.cells (partCs (.slice Q0 q.cells.length q0_) (.slice Q1 q.recs.length q1_) (.slice Q2 q.done.length q2_) q).toArray 77)) trivial
      have rB := Row.new (wr.alloc (.cells (partCs (.slice P0 p.cells.length p0_) (.slice P1 p.recs.length p1_) (.slice P2 p.done.length p2_) p).toArray 77)) 77 (partCs (.slice Q0 q.cells.length q0_) (.slice Q1 q.recs.length q1_) (.slice Q2 q.done.length q2_) q)
      rw [World.size_alloc] at rB
      have RA := Lib.hid rA
      have RB := Lib.hid rB
      have rA' := (Row.new wr 77 (partCs (.slice Q0 q.cells.length q0_) (.slice Q1 q.recs.length q1_) (.slice Q2 q.done.length q2_) q)).keep ((Same.refl (fun _ => True) _).alloc (.cells (partCs (.slice P0 p.cells.length p0_) (.slice P1 p.recs.length p1_) (.slice P2 p.done.length p2_) p).toArray 77)) trivial
      have rB' := Row.new (wr.alloc (.cells (partCs (.slice Q0 q.cells.length q0_) (.slice Q1 q.recs.length q1_) (.slice Q2 q.done.length q2_) q).toArray 77)) 77 (partCs (.slice P0 p.cells.length p0_) (.slice P1 p.recs.length p1_) (.slice P2 p.done.length p2_) p)
      rw [World.size_alloc] at rB'
      have RC := Lib.hid rA'
      have RD := Lib.hid rB'
      have SA := Lib.hid (((Same.refl (fun _ => True) wr).alloc (.cells (partCs (.slice P0 p.cells.length p0_) (.slice P1 p.recs.length p1_) (.slice P2 p.done.length p2_) p).toArray 77)).alloc (.cells (partCs (.slice Q0 q.cells.length q0_) (.slice Q1 q.recs.length q1_) (.slice Q2 q.done.length q2_) q).toArray 77))
      have SB := Lib.hid (((Same.refl (fun _ => True) wr).alloc (.cells (partCs (.slice Q0 q.cells.length q0_) (.slice Q1 q.recs.length q1_) (.slice Q2 q.done.length q2_) q).toArray 77)).alloc (.cells (partCs (.slice P0 p.cells.length p0_) (.slice P1 p.recs.length p1_) (.slice P2 p.done.length p2_) p).toArray 77))
      clear rA rB rA' rB'
      go_wp2
      go_cut [5, 6] from 16 to 110 (fun v5 v6 wx => ∃ g g', v5 = .pointer (some ⟨g, 0, none⟩) ∧ v6 = .pointer (some ⟨g', 0, none⟩) ∧ Row wx g 77 (partCs (.slice P0 p.cells.length p0_) (.slice P1 p.recs.length p1_) (.slice P2 p.done.length p2_) p) ∧ Row wx g' 77 (partCs (.slice Q0 q.cells.length q0_) (.slice Q1 q.recs.length q1_) (.slice Q2 q.done.length q2_) q) ∧ Same (fun _ => True) wr wx)
      case first =>
        go_region_held3 (fun w' => w'.cell? (ap.add (j * 9)) = some (.int .i64 p.epoch) ∧ w'.cell? ⟨(ap.add (j * 9)).block, (ap.add (j * 9)).off + 1, none⟩ = some (.int .i64 p.holder) ∧ w'.cell? ⟨(ap.add (j * 9)).block, (ap.add (j * 9)).off + 2, none⟩ = some (.int .i64 p.floor.wall) ∧ w'.cell? ⟨(ap.add (j * 9)).block, (ap.add (j * 9)).off + 3, none⟩ = some (.int .i64 p.floor.tie) ∧ w'.cell? ⟨(ap.add (j * 9)).block, (ap.add (j * 9)).off + 4, none⟩ = some (.int .i64 p.closed) ∧ w'.cell? ⟨(ap.add (j * 9)).block, (ap.add (j * 9)).off + 5, none⟩ = some (.int .i64 p.low) ∧ w'.cell? ⟨(ap.add (j * 9)).block, (ap.add (j * 9)).off + 6, none⟩ = some (.slice P0 p.cells.length p0_) ∧ w'.cell? ⟨(ap.add (j * 9)).block, (ap.add (j * 9)).off + 7, none⟩ = some (.slice P1 p.recs.length p1_) ∧ w'.cell? ⟨(ap.add (j * 9)).block, (ap.add (j * 9)).off + 8, none⟩ = some (.slice P2 p.done.length p2_) ∧ w'.cell? (ap.add ((j + 1) * 9)) = some (.int .i64 q.epoch) ∧ w'.cell? ⟨(ap.add ((j + 1) * 9)).block, (ap.add ((j + 1) * 9)).off + 1, none⟩ = some (.int .i64 q.holder) ∧ w'.cell? ⟨(ap.add ((j + 1) * 9)).block, (ap.add ((j + 1) * 9)).off + 2, none⟩ = some (.int .i64 q.floor.wall) ∧ w'.cell? ⟨(ap.add ((j + 1) * 9)).block, (ap.add ((j + 1) * 9)).off + 3, none⟩ = some (.int .i64 q.floor.tie) ∧ w'.cell? ⟨(ap.add ((j + 1) * 9)).block, (ap.add ((j + 1) * 9)).off + 4, none⟩ = some (.int .i64 q.closed) ∧ w'.cell? ⟨(ap.add ((j + 1) * 9)).block, (ap.add ((j + 1) * 9)).off + 5, none⟩ = some (.int .i64 q.low) ∧ w'.cell? ⟨(ap.add ((j + 1) * 9)).block, (ap.add ((j + 1) * 9)).off + 6, none⟩ = some (.slice Q0 q.cells.length q0_) ∧ w'.cell? ⟨(ap.add ((j + 1) * 9)).block, (ap.add ((j + 1) * 9)).off + 7, none⟩ = some (.slice Q1 q.recs.length q1_) ∧ w'.cell? ⟨(ap.add ((j + 1) * 9)).block, (ap.add ((j + 1) * 9)).off + 8, none⟩ = some (.slice Q2 q.done.length q2_)) (go_keep) (fail)
        all_goals first
          | (go_wp2; go_meet; exact ⟨_, _, rfl, rfl, RA.out.keep ((Same.refl (fun _ => True) _).drew) trivial, RB.out.keep ((Same.refl (fun _ => True) _).drew) trivial, SA.out.drew⟩)
          | (go_wp2; go_meet; exact ⟨_, _, rfl, rfl, RD.out.keep ((Same.refl (fun _ => True) _).drew) trivial, RC.out.keep ((Same.refl (fun _ => True) _).drew) trivial, SB.out.drew⟩)
      case rest =>
        obtain ⟨g, g', rfl, rfl, hr0, hr1, hS1⟩ := hcut
        have R0 := Lib.hid hr0
        have R1 := Lib.hid hr1
        have HO := Lib.hid (HO.out.keepAll hS1)
        have HN := Lib.hid (HN.out.keepAll hS1)
        have HSr := Lib.hid (HSr.out.trans hS1)
        have HS := Lib.hid (HS.out.trans hS1)
        clear hr0 hr1 hS1 RA RB RC RD SA SB x1 x2 x3 x4 x5 x6 x7 x8 y1 y2 y3 y4 y5 y6 y7 y8
        clear p0 p1 p2 p3 p4 p5 p6 p7 p8
        clear n0 n1 n2 n3 n4 n5 n6 n7 n8
        have r_ := R0.out
        have p0 := r_.cell 0
        have p1 := r_.cell 1
        have p2 := r_.cell 2
        have p3 := r_.cell 3
        have p4 := r_.cell 4
        have p5 := r_.cell 5
        have p6 := r_.cell 6
        have p7 := r_.cell 7
        have p8 := r_.cell 8
        simp only [partCs, cmdCs, repCs, tryCs, stCs, wrCs, List.getElem?_cons_zero, List.getElem?_cons_succ] at p0 p1 p2 p3 p4 p5 p6 p7 p8
        clear r_
        have r_ := R1.out
        have n0 := r_.cell 0
        have n1 := r_.cell 1
        have n2 := r_.cell 2
        have n3 := r_.cell 3
        have n4 := r_.cell 4
        have n5 := r_.cell 5
        have n6 := r_.cell 6
        have n7 := r_.cell 7
        have n8 := r_.cell 8
        simp only [partCs, cmdCs, repCs, tryCs, stCs, wrCs, List.getElem?_cons_zero, List.getElem?_cons_succ] at n0 n1 n2 n3 n4 n5 n6 n7 n8
        clear r_
        obtain ⟨hfl, ⟨hw1, hw2, hw3⟩, hl1, hl2⟩ := Hfw.out
        have z1 : decide (q.closed < p.closed) = false := by simp; omega
        have z2 : decide (q.low < p.low) = false := by simp; omega
        have z3 : decide (q.epoch < p.epoch) = false := by simp; omega
        have Hfl := Lib.hid hfl
        have Hl := Lib.hid (And.intro hl1 hl2)
        clear hfl hw1 hw2 hw3 hl1 hl2
        go_wp2_with (go_at_call 28; refine stopAt ?_)
        unfold Hid
        refine (refless_any q.floor p.floor _).mono ?_
        rintro e wd ⟨rfl, hS1⟩
        rw [Hfl.out]
        clear p0 p1 p2 p3 p4 p5 p6 p7 p8
        clear n0 n1 n2 n3 n4 n5 n6 n7 n8
        clear z1 z2 z3
        have R0 := Lib.hid (R0.out.keep hS1 trivial)
        have R1 := Lib.hid (R1.out.keep hS1 trivial)
        have HO := Lib.hid (HO.out.keepAll hS1)
        have HN := Lib.hid (HN.out.keepAll hS1)
        have HSr := Lib.hid (HSr.out.trans hS1)
        have HS := Lib.hid (HS.out.trans hS1)
        clear hS1
        have r_ := R0.out
        have p0 := r_.cell 0
        have p1 := r_.cell 1
        have p2 := r_.cell 2
        have p3 := r_.cell 3
        have p4 := r_.cell 4
        have p5 := r_.cell 5
        have p6 := r_.cell 6
        have p7 := r_.cell 7
        have p8 := r_.cell 8
        simp only [partCs, cmdCs, repCs, tryCs, stCs, wrCs, List.getElem?_cons_zero, List.getElem?_cons_succ] at p0 p1 p2 p3 p4 p5 p6 p7 p8
        clear r_
        have r_ := R1.out
        have n0 := r_.cell 0
        have n1 := r_.cell 1
        have n2 := r_.cell 2
        have n3 := r_.cell 3
        have n4 := r_.cell 4
        have n5 := r_.cell 5
        have n6 := r_.cell 6
        have n7 := r_.cell 7
        have n8 := r_.cell 8
        simp only [partCs, cmdCs, repCs, tryCs, stCs, wrCs, List.getElem?_cons_zero, List.getElem?_cons_succ] at n0 n1 n2 n3 n4 n5 n6 n7 n8
        clear r_
        have z4 : decide (q.recs.length < p.recs.length) = false := by have := Hl.out; simp; omega
        have z5 : decide (q.done.length < p.done.length) = false := by have := Hl.out; simp; omega
        have z6 : decide ((q.recs.length : Int) < p.recs.length) = false := by have := Hl.out; simp; omega
        have z7 : decide ((q.done.length : Int) < p.done.length) = false := by have := Hl.out; simp; omega
        go_wp2
        clear z4 z5 z6 z7
        clear p0 p1 p2 p3 p4 p5 p6 p7 p8
        clear n0 n1 n2 n3 n4 n5 n6 n7 n8
        obtain ⟨wo, rfl⟩ : ∃ wo : World, wo = wd := ⟨_, rfl⟩
        go_loopw [7] (fun i wr => ∃ m : Nat, i = .int .i64 m ∧ m ≤ p.recs.length ∧ Same (fun _ => True) wo wr) (fun i _ => p.recs.length - (intOf i).toNat)
        case atStart => exact ⟨0, rfl, Nat.zero_le _, Same.refl _ _⟩
        case round =>
          obtain ⟨m, rfl, hm, hS1⟩ := hrel
          have R0 := Lib.hid (R0.out.keep hS1 trivial)
          have R1 := Lib.hid (R1.out.keep hS1 trivial)
          have HO := Lib.hid (HO.out.keepAll hS1)
          have HN := Lib.hid (HN.out.keepAll hS1)
          have HSo := Lib.hid hS1
          have HSq := Lib.hid (HSr.out.trans hS1)
          have HS := Lib.hid (HS.out.trans hS1)
          clear hS1
          have r_ := R0.out
          have p0 := r_.cell 0
          have p1 := r_.cell 1
          have p2 := r_.cell 2
          have p3 := r_.cell 3
          have p4 := r_.cell 4
          have p5 := r_.cell 5
          have p6 := r_.cell 6
          have p7 := r_.cell 7
          have p8 := r_.cell 8
          simp only [partCs, cmdCs, repCs, tryCs, stCs, wrCs, List.getElem?_cons_zero, List.getElem?_cons_succ] at p0 p1 p2 p3 p4 p5 p6 p7 p8
          clear r_
          have r_ := R1.out
          have n0 := r_.cell 0
          have n1 := r_.cell 1
          have n2 := r_.cell 2
          have n3 := r_.cell 3
          have n4 := r_.cell 4
          have n5 := r_.cell 5
          have n6 := r_.cell 6
          have n7 := r_.cell 7
          have n8 := r_.cell 8
          simp only [partCs, cmdCs, repCs, tryCs, stCs, wrCs, List.getElem?_cons_zero, List.getElem?_cons_succ] at n0 n1 n2 n3 n4 n5 n6 n7 n8
          clear r_
          by_cases hml : m < p.recs.length
          · obtain ⟨ad, had, -, c0, c1, c2, c3, c4, c5, c6⟩ := OutR.cells HO.out.reads.recs hml
            obtain ⟨ad', had', -, d0, d1, d2, d3, d4, d5, d6⟩ := OutR.cells HN.out.reads.recs (i := m) (by rw [Ht1.out]; simp; omega)
            have e : q.recs[m]'(by rw [Ht1.out]; simp; omega) = p.recs[m] := by simp only [Ht1.out]; exact List.getElem_append_left hml
            rw [e] at d0 d1 d2 d3 d4 d5 d6
            clear e
            subst had had'
            have x1 : (0 : Int) ≤ (m : Int) := by omega
            have x2 : (m : Int) < (p.recs.length : Int) := by omega
            have x3 : (m : Int) < (q.recs.length : Int) := by have := Hl.out; omega
            generalize p.recs[m] = ou at *
            go_wp2
            go_quiet (fail)
            rename_i nq
            have HS2 := Lib.hid (HSo.out.trans ((Same.refl (fun _ => True) _).drewN nq))
            clear c0 c1 c2 c3 c4 c5 c6 d0 d1 d2 d3 d4 d5 d6 p0 p1 p2 p3 p4 p5 p6 p7 p8 n0 n1 n2 n3 n4 n5 n6 n7 n8
            go_wp2
            go_roundw
            case rel => exact ⟨m + 1, by go_num, by omega, HS2.out⟩
            case measure => simp [intOf]; omega
          · obtain rfl : m = p.recs.length := by omega
            go_wp2
            clear p0 p1 p2 p3 p4 p5 p6 p7 p8 n0 n1 n2 n3 n4 n5 n6 n7 n8
            have HSr := HSq
            obtain ⟨wo2, rfl⟩ : ∃ wo2 : World, wo2 = wr := ⟨_, rfl⟩
            go_loopw [8] (fun i wr => ∃ m : Nat, i = .int .i64 m ∧ m ≤ p.done.length ∧ Same (fun _ => True) wo2 wr) (fun i _ => p.done.length - (intOf i).toNat)
            case atStart => exact ⟨0, rfl, Nat.zero_le _, Same.refl _ _⟩
            case round =>
              obtain ⟨m, rfl, hm, hS1⟩ := hrel
              have R0 := Lib.hid (R0.out.keep hS1 trivial)
              have R1 := Lib.hid (R1.out.keep hS1 trivial)
              have HO := Lib.hid (HO.out.keepAll hS1)
              have HN := Lib.hid (HN.out.keepAll hS1)
              have HSo := Lib.hid hS1
              have HSq := Lib.hid (HSr.out.trans hS1)
              have HS := Lib.hid (HS.out.trans hS1)
              clear hS1
              have r_ := R0.out
              have p0 := r_.cell 0
              have p1 := r_.cell 1
              have p2 := r_.cell 2
              have p3 := r_.cell 3
              have p4 := r_.cell 4
              have p5 := r_.cell 5
              have p6 := r_.cell 6
              have p7 := r_.cell 7
              have p8 := r_.cell 8
              simp only [partCs, cmdCs, repCs, tryCs, stCs, wrCs, List.getElem?_cons_zero, List.getElem?_cons_succ] at p0 p1 p2 p3 p4 p5 p6 p7 p8
              clear r_
              have r_ := R1.out
              have n0 := r_.cell 0
              have n1 := r_.cell 1
              have n2 := r_.cell 2
              have n3 := r_.cell 3
              have n4 := r_.cell 4
              have n5 := r_.cell 5
              have n6 := r_.cell 6
              have n7 := r_.cell 7
              have n8 := r_.cell 8
              simp only [partCs, cmdCs, repCs, tryCs, stCs, wrCs, List.getElem?_cons_zero, List.getElem?_cons_succ] at n0 n1 n2 n3 n4 n5 n6 n7 n8
              clear r_
              by_cases hml : m < p.done.length
              · obtain ⟨ad, had, -, c0, c1, c2, c3, c4, c5, c6⟩ := OutR.cells HO.out.reads.done hml
                obtain ⟨ad', had', -, d0, d1, d2, d3, d4, d5, d6⟩ := OutR.cells HN.out.reads.done (i := m) (by rw [Ht2.out]; simp; omega)
                have e : q.done[m]'(by rw [Ht2.out]; simp; omega) = p.done[m] := by simp only [Ht2.out]; exact List.getElem_append_left hml
                rw [e] at d0 d1 d2 d3 d4 d5 d6
                clear e
                subst had had'
                have x1 : (0 : Int) ≤ (m : Int) := by omega
                have x2 : (m : Int) < (p.done.length : Int) := by omega
                have x3 : (m : Int) < (q.done.length : Int) := by have := Hl.out; omega
                generalize p.done[m] = ou at *
                go_wp2
                go_quiet (fail)
                rename_i nq
                have HS2 := Lib.hid (HSo.out.trans ((Same.refl (fun _ => True) _).drewN nq))
                clear c0 c1 c2 c3 c4 c5 c6 d0 d1 d2 d3 d4 d5 d6 p0 p1 p2 p3 p4 p5 p6 p7 p8 n0 n1 n2 n3 n4 n5 n6 n7 n8
                go_wp2
                go_roundw
                case rel => exact ⟨m + 1, by go_num, by omega, HS2.out⟩
                case measure => simp [intOf]; omega
              · obtain rfl : m = p.done.length := by omega
                go_wp2
                go_roundw
                case rel => exact ⟨j + 1 + 1, by go_num, by omega, by omega, HSq.out⟩
                case measure => simp [intOf]; omega
    · obtain rfl : k = l.length + 1 := by omega
      clear hS
      go_wp2
      go_ret
      exact ⟨rfl, HS.out⟩
end Go.Proofs.Ytoldelocfmpccaa
