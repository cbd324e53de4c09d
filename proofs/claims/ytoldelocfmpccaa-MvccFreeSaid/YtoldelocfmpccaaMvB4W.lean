/-
  MvccFree: for all operations, a lock is told as it was laid, and a settling that says no frees it: the walk.
-/
import Derived.Test.YtoldelocfmpccaaQ15
set_option linter.unusedSimpArgs false
set_option linter.unusedVariables false
namespace Go.Proofs.Ytoldelocfmpccaa
open Go.RowKit

set_option maxRecDepth 100000 in
set_option maxHeartbeats 4000000 in
theorem free_walk (v : Value) (ops : List OpT) (x : Wr) (l : Lck) (w : World) (hv : OpsR w (fun q => q < w.heap.size) v ops) (hk1 : x.key.length ≤ maxLen) (hk2 : x.data.length ≤ maxLen) :
    Calls Try.prog 6 #[v, wrV x, lckV l] w fun e w' => e = .returned (.bool true) ∧ Same (fun _ => True) w w' := by
  have hv' := hv
  obtain ⟨A, c, rfl, hc, hm, -⟩ := hv'
  have Hops := Lib.hid hv
  obtain ⟨B, hBe⟩ : ∃ B, B = w.heap.size := ⟨_, rfl⟩
  have HBe := Lib.hid hBe
  have r0 := (Row.new w 24 (wrCs x)).keep ((Same.refl (fun _ => True) _).alloc (.cells (lckCs l).toArray 30)) trivial
  have r1 := Row.new (w.alloc (.cells (wrCs x).toArray 24)) 30 (lckCs l)
  have hS0 := ((Same.refl (fun _ => True) w).alloc (.cells (wrCs x).toArray 24)).alloc (.cells (lckCs l).toArray 30)
  rw [World.size_alloc] at r1
  have R0 := Lib.hid r0
  have R1 := Lib.hid r1
  have HS0 := Lib.hid hS0
  unfold maxLen at hm hk1 hk2
  clear hv r0 r1 hS0 hBe
  go_enter Try.func6, Try.ntmps6
  go_wp2_with (go_at_call 21; refine stopAt ?_)
  unfold Hid
  refine (begun_any _).mono ?_
  rintro e w1 ⟨rfl, hS1⟩
  have HS1 := Lib.hid (HS0.out.trans hS1)
  have RW := Lib.hid (R0.out.keep hS1 trivial)
  have RL := Lib.hid (R1.out.keep hS1 trivial)
  clear hS1 R0 R1 HS0
  have z1 := RL.out.lt
  have rw_ := RW.out.keep (Same.refl (fun _ => True) w1) trivial
  have rl_ := RL.out.keep (Same.refl (fun _ => True) w1) trivial
  have k0 : w1.cell? ⟨w.heap.size, 0, none⟩ = some (.string (str x.key)) := rw_.cell 0
  have k1 : w1.cell? ⟨w.heap.size, 1, none⟩ = some (.bool x.drop) := rw_.cell 1
  have k2 : w1.cell? ⟨w.heap.size, 2, none⟩ = some (.string (str x.data)) := rw_.cell 2
  have l0 : w1.cell? ⟨w.heap.size + 1, 0, none⟩ = some (.int .i64 l.by_.node) := rl_.cell 0
  have l1 : w1.cell? ⟨w.heap.size + 1, 1, none⟩ = some (.int .i64 l.by_.life) := rl_.cell 1
  have l2 : w1.cell? ⟨w.heap.size + 1, 2, none⟩ = some (.int .i64 l.by_.seq) := rl_.cell 2
  have l3 : w1.cell? ⟨w.heap.size + 1, 3, none⟩ = some (.int .i64 l.by_.attempt) := rl_.cell 3
  have l4 : w1.cell? ⟨w.heap.size + 1, 4, none⟩ = some (.int .i64 l.home) := rl_.cell 4
  have l5 : w1.cell? ⟨w.heap.size + 1, 5, none⟩ = some (.int .i64 l.at_.wall) := rl_.cell 5
  have l6 : w1.cell? ⟨w.heap.size + 1, 6, none⟩ = some (.int .i64 l.at_.tie) := rl_.cell 6
  have l7 : w1.cell? ⟨w.heap.size + 1, 7, none⟩ = some (.bool l.drop) := rl_.cell 7
  have l8 : w1.cell? ⟨w.heap.size + 1, 8, none⟩ = some (.string (str l.data)) := rl_.cell 8
  have zs := rl_.lt
  clear rw_ rl_
  go_wp2_with (go_at_call 22; refine stopAt ?_)
  unfold Hid
  refine (light_any (.slice A ops.length c) ops 40 _ w1 (SlOf.keep Hops.out (HS1.out.mono fun _ _ _ => trivial)) (by omega)).mono ?_
  rintro e w2 ⟨bl, rfl, hbl, rfl⟩
  cases bl
  · clear hbl
    go_wp2
    go_ret
    exact ⟨rfl, HS1.out⟩
  have hn := hbl rfl
  clear hbl
  have z2 : (str x.key).size = x.key.length := str_size _
  have z3 : (str x.data).size = x.data.length := str_size _
  go_wp2
  all_goals try (go_ret; exact ⟨rfl, HS1.out⟩)
  clear k0 k1 k2 l0 l1 l2 l3 l4 l5 l6 l7 l8 zs
  go_loopw [7, 8] (fun v i wr => ∃ k : Nat, i = .int .i64 k ∧ k ≤ ops.length ∧ OwnC wr B v (runF (ops.take k)) ∧ Same (fun _ => True) w1 wr) (fun _ i _ => ops.length - (intOf i).toNat)
  case atStart => exact ⟨0, rfl, Nat.zero_le _, OwnC.nil _ _, Same.refl _ _⟩
  case round =>
    obtain ⟨k, rfl, hk, hown, hS⟩ := hrel
    have hf := run_fine ops k hk
    obtain ⟨Al, nl, cl, rfl, hl1, hl2⟩ := hown.form3
    have HS := Lib.hid hS
    have Hown := Lib.hid hown
    unfold maxLen at hl2
    by_cases hlt : k < ops.length
    · obtain ⟨ad, rfl, -, -, c0, hcs⟩ := ops_at (SlOf.keep Hops.out ((HS1.out.trans hS).mono fun _ _ _ => trivial)) hlt
      have x1 : (0 : Int) ≤ (k : Int) := by omega
      have x2 : (k : Int) < (ops.length : Int) := by omega
      have c1 := hcs 1 (by omega) (by omega)
      have c2 := hcs 2 (by omega) (by omega)
      have c3 := hcs 3 (by omega) (by omega)
      have c4 := hcs 4 (by omega) (by omega)
      have c5 := hcs 5 (by omega) (by omega)
      have c6 := hcs 6 (by omega) (by omega)
      have c7 := hcs 7 (by omega) (by omega)
      have c8 := hcs 8 (by omega) (by omega)
      have c9 := hcs 9 (by omega) (by omega)
      have c10 := hcs 10 (by omega) (by omega)
      have c11 := hcs 11 (by omega) (by omega)
      have c12 := hcs 12 (by omega) (by omega)
      have c13 := hcs 13 (by omega) (by omega)
      simp only [opCs, List.getElem?_cons_zero, List.getElem?_cons_succ] at c1 c2 c3 c4 c5 c6 c7 c8 c9 c10 c11 c12 c13
      have hst := runF_step hlt
      have gd := do_any (.slice Al nl cl) (runF (ops.take k)) ops[k] _ wr hown.reads hf.good (hf.len (by omega)) (hf.vers (by omega))
      rw [← hst] at gd
      have Hst := Lib.hid hst
      have hB := (HS1.out.trans hS).size
      clear hcs hown hS hf hst
      generalize ops[k] = o at *
      go_wp2_with (go_at_call 23; refine stopAt ?_)
      unfold Hid
      refine gd.mono ?_
      rintro e w5 ⟨v1, v2, rfl, hown5, -, hS5⟩
      have Hown5 := Lib.hid (hown5.lower (B' := B) (by rw [HBe.out]; exact hB))
      have HS5 := Lib.hid (HS.out.trans hS5)
      clear hown5 hS5 gd c0 c1 c2 c3 c4 c5 c6 c7 c8 c9 c10 c11 c12 c13
      go_wp2
      go_roundw
      case rel => exact ⟨k + 1, by go_num, by omega, Hown5.out, HS5.out⟩
      case measure => simp [intOf]; omega
    · obtain rfl : k = ops.length := by omega
      rw [List.take_length] at Hown hf
      obtain ⟨cs, hcs⟩ : ∃ cs, cs = runF ops := ⟨_, rfl⟩
      rw [← hcs] at Hown hf
      have Hf := Lib.hid hf
      clear hown hf hcs
      have hBw := (HS1.out.trans HS.out).size
      have rw_ := RW.out.keep HS.out trivial
      have rl_ := RL.out.keep HS.out trivial
      have k0 : wr.cell? ⟨w.heap.size, 0, none⟩ = some (.string (str x.key)) := rw_.cell 0
      have k1 : wr.cell? ⟨w.heap.size, 1, none⟩ = some (.bool x.drop) := rw_.cell 1
      have k2 : wr.cell? ⟨w.heap.size, 2, none⟩ = some (.string (str x.data)) := rw_.cell 2
      have l0 : wr.cell? ⟨w.heap.size + 1, 0, none⟩ = some (.int .i64 l.by_.node) := rl_.cell 0
      have l1 : wr.cell? ⟨w.heap.size + 1, 1, none⟩ = some (.int .i64 l.by_.life) := rl_.cell 1
      have l2 : wr.cell? ⟨w.heap.size + 1, 2, none⟩ = some (.int .i64 l.by_.seq) := rl_.cell 2
      have l3 : wr.cell? ⟨w.heap.size + 1, 3, none⟩ = some (.int .i64 l.by_.attempt) := rl_.cell 3
      have l4 : wr.cell? ⟨w.heap.size + 1, 4, none⟩ = some (.int .i64 l.home) := rl_.cell 4
      have l5 : wr.cell? ⟨w.heap.size + 1, 5, none⟩ = some (.int .i64 l.at_.wall) := rl_.cell 5
      have l6 : wr.cell? ⟨w.heap.size + 1, 6, none⟩ = some (.int .i64 l.at_.tie) := rl_.cell 6
      have l7 : wr.cell? ⟨w.heap.size + 1, 7, none⟩ = some (.bool l.drop) := rl_.cell 7
      have l8 : wr.cell? ⟨w.heap.size + 1, 8, none⟩ = some (.string (str l.data)) := rl_.cell 8
      have zs := rl_.lt
      clear rw_ rl_
      clear hS
      go_wp2_with (go_at_call 30; refine stopAt ?_)
      unfold Hid
      refine (mvheld_any (.slice Al nl cl) cs x.key _ wr Hown.out.reads Hf.out.good.sorted (by have := Hf.out.len (by omega); omega)).mono ?_
      rintro e w3 ⟨rfl, hS3⟩
      obtain ⟨p1, p3⟩ := free_plain Hf.out.good x l
      obtain ⟨dt, hdt⟩ : ∃ dt, dt = (if x.drop then [] else x.data) := ⟨_, rfl⟩
      have ew : lockW x l = ⟨l.by_, l.home, l.at_, x.drop, dt⟩ := by rw [hdt]; rfl
      have P1 := Lib.hid (p1.trans (by rw [ew]))
      obtain ⟨⟨hk, is⟩, hh⟩ : ∃ r, r = heldF cs x.key := ⟨_, rfl⟩
      rw [← hh] at p3 ⊢
      have P3 := Lib.hid p3
      have Hf4 := Lib.hid (Hf.out.lock x l)
      clear p1 p3 hdt ew hh
      go_wp2_with (with_reducible refine stopDst 54 rfl ?_)
      unfold Hid
      generalize hW : World.alloc w3 _ = w4
      have hSw : Same (fun _ => True) w3 w4 := by rw [← hW]; exact (Same.refl _ _).alloc _
      have HS3 := Lib.hid ((HS.out.trans hS3).trans hSw)
      have Hown3 := Lib.hid (Hown.out.keepAll ((hS3.trans hSw).mono fun _ _ _ => trivial))
      clear hW hS3 hSw
      clear k0 k1 k2 l0 l1 l2 l3 l4 l5 l6 l7 l8 zs
      have rw_ := RW.out.keep HS3.out trivial
      have rl_ := RL.out.keep HS3.out trivial
      have k0 : w4.cell? ⟨w.heap.size, 0, none⟩ = some (.string (str x.key)) := rw_.cell 0
      have k1 : w4.cell? ⟨w.heap.size, 1, none⟩ = some (.bool x.drop) := rw_.cell 1
      have k2 : w4.cell? ⟨w.heap.size, 2, none⟩ = some (.string (str x.data)) := rw_.cell 2
      have l0 : w4.cell? ⟨w.heap.size + 1, 0, none⟩ = some (.int .i64 l.by_.node) := rl_.cell 0
      have l1 : w4.cell? ⟨w.heap.size + 1, 1, none⟩ = some (.int .i64 l.by_.life) := rl_.cell 1
      have l2 : w4.cell? ⟨w.heap.size + 1, 2, none⟩ = some (.int .i64 l.by_.seq) := rl_.cell 2
      have l3 : w4.cell? ⟨w.heap.size + 1, 3, none⟩ = some (.int .i64 l.by_.attempt) := rl_.cell 3
      have l4 : w4.cell? ⟨w.heap.size + 1, 4, none⟩ = some (.int .i64 l.home) := rl_.cell 4
      have l5 : w4.cell? ⟨w.heap.size + 1, 5, none⟩ = some (.int .i64 l.at_.wall) := rl_.cell 5
      have l6 : w4.cell? ⟨w.heap.size + 1, 6, none⟩ = some (.int .i64 l.at_.tie) := rl_.cell 6
      have l7 : w4.cell? ⟨w.heap.size + 1, 7, none⟩ = some (.bool l.drop) := rl_.cell 7
      have l8 : w4.cell? ⟨w.heap.size + 1, 8, none⟩ = some (.string (str l.data)) := rl_.cell 8
      have zs := rl_.lt
      clear rw_ rl_
      go_wp2_with (go_at_call 26; refine stopAt ?_)
      unfold Hid
      refine (mvlock_any (.slice Al nl cl) cs x l _ _ Hown3.out.reads (Hf.out.len (by omega)) (Hf.out.vers (by omega)) Hf.out.good.sorted).mono ?_
      rintro e w5 ⟨v4, rfl, hown4, hS4⟩
      have HS4 := Lib.hid (HS3.out.trans hS4)
      have Hd4 := Lib.hid hown4
      have Hc4 := Lib.hid (Hown3.out.keepAll hS4)
      clear hS4 hown4
      clear k0 k1 k2 l0 l1 l2 l3 l4 l5 l6 l7 l8 zs
      have rw_ := RW.out.keep HS4.out trivial
      have rl_ := RL.out.keep HS4.out trivial
      have k0 : w5.cell? ⟨w.heap.size, 0, none⟩ = some (.string (str x.key)) := rw_.cell 0
      have k1 : w5.cell? ⟨w.heap.size, 1, none⟩ = some (.bool x.drop) := rw_.cell 1
      have k2 : w5.cell? ⟨w.heap.size, 2, none⟩ = some (.string (str x.data)) := rw_.cell 2
      have l0 : w5.cell? ⟨w.heap.size + 1, 0, none⟩ = some (.int .i64 l.by_.node) := rl_.cell 0
      have l1 : w5.cell? ⟨w.heap.size + 1, 1, none⟩ = some (.int .i64 l.by_.life) := rl_.cell 1
      have l2 : w5.cell? ⟨w.heap.size + 1, 2, none⟩ = some (.int .i64 l.by_.seq) := rl_.cell 2
      have l3 : w5.cell? ⟨w.heap.size + 1, 3, none⟩ = some (.int .i64 l.by_.attempt) := rl_.cell 3
      have l4 : w5.cell? ⟨w.heap.size + 1, 4, none⟩ = some (.int .i64 l.home) := rl_.cell 4
      have l5 : w5.cell? ⟨w.heap.size + 1, 5, none⟩ = some (.int .i64 l.at_.wall) := rl_.cell 5
      have l6 : w5.cell? ⟨w.heap.size + 1, 6, none⟩ = some (.int .i64 l.at_.tie) := rl_.cell 6
      have l7 : w5.cell? ⟨w.heap.size + 1, 7, none⟩ = some (.bool l.drop) := rl_.cell 7
      have l8 : w5.cell? ⟨w.heap.size + 1, 8, none⟩ = some (.string (str l.data)) := rl_.cell 8
      have zs := rl_.lt
      clear rw_ rl_
      go_wp2_with (go_at_call 30; refine stopAt ?_)
      unfold Hid
      have gh := mvheld_any v4 (lockF cs x.key (lockW x l)) x.key _ w5 Hd4.out.reads Hf4.out.good.sorted (by have := Hf4.out.len (by omega); omega)
      rw [P1.out] at gh
      refine gh.mono ?_
      rintro e w6 ⟨rfl, hS5⟩
      clear k0 k1 k2 l0 l1 l2 l3 l4 l5 l6 l7 l8 zs
      have rw_ := RW.out.keep (HS4.out.trans hS5) trivial
      have rl_ := RL.out.keep (HS4.out.trans hS5) trivial
      have k0 : w6.cell? ⟨w.heap.size, 0, none⟩ = some (.string (str x.key)) := rw_.cell 0
      have k1 : w6.cell? ⟨w.heap.size, 1, none⟩ = some (.bool x.drop) := rw_.cell 1
      have k2 : w6.cell? ⟨w.heap.size, 2, none⟩ = some (.string (str x.data)) := rw_.cell 2
      have l0 : w6.cell? ⟨w.heap.size + 1, 0, none⟩ = some (.int .i64 l.by_.node) := rl_.cell 0
      have l1 : w6.cell? ⟨w.heap.size + 1, 1, none⟩ = some (.int .i64 l.by_.life) := rl_.cell 1
      have l2 : w6.cell? ⟨w.heap.size + 1, 2, none⟩ = some (.int .i64 l.by_.seq) := rl_.cell 2
      have l3 : w6.cell? ⟨w.heap.size + 1, 3, none⟩ = some (.int .i64 l.by_.attempt) := rl_.cell 3
      have l4 : w6.cell? ⟨w.heap.size + 1, 4, none⟩ = some (.int .i64 l.home) := rl_.cell 4
      have l5 : w6.cell? ⟨w.heap.size + 1, 5, none⟩ = some (.int .i64 l.at_.wall) := rl_.cell 5
      have l6 : w6.cell? ⟨w.heap.size + 1, 6, none⟩ = some (.int .i64 l.at_.tie) := rl_.cell 6
      have l7 : w6.cell? ⟨w.heap.size + 1, 7, none⟩ = some (.bool l.drop) := rl_.cell 7
      have l8 : w6.cell? ⟨w.heap.size + 1, 8, none⟩ = some (.string (str l.data)) := rl_.cell 8
      have zs := rl_.lt
      clear rw_ rl_
      clear gh P1
      go_wp2_with (with_reducible refine stopDst 68 rfl ?_)
      unfold Hid
      generalize hW : World.alloc w6 _ = w7
      have hSw : Same (fun _ => True) w6 w7 := by rw [← hW]; exact (Same.refl _ _).alloc _
      have rb' : Row w7 w6.heap.size 30 (lckCs ⟨l.by_, l.home, l.at_, x.drop, dt⟩) := by rw [← hW]; exact Row.new w6 30 (lckCs ⟨l.by_, l.home, l.at_, x.drop, dt⟩)
      have HS5 := Lib.hid ((HS4.out.trans hS5).trans hSw)
      have Hc5 := Lib.hid (Hc4.out.keepAll (hS5.trans hSw))
      have Hd5 := Lib.hid (Hd4.out.keepAll (hS5.trans hSw))
      have zb := rb'.lt
      have m0 : w7.cell? ⟨w6.heap.size, 0, none⟩ = some (.int .i64 l.by_.node) := rb'.cell 0
      have m1 : w7.cell? ⟨w6.heap.size, 1, none⟩ = some (.int .i64 l.by_.life) := rb'.cell 1
      have m2 : w7.cell? ⟨w6.heap.size, 2, none⟩ = some (.int .i64 l.by_.seq) := rb'.cell 2
      have m3 : w7.cell? ⟨w6.heap.size, 3, none⟩ = some (.int .i64 l.by_.attempt) := rb'.cell 3
      have m4 : w7.cell? ⟨w6.heap.size, 4, none⟩ = some (.int .i64 l.home) := rb'.cell 4
      have m5 : w7.cell? ⟨w6.heap.size, 5, none⟩ = some (.int .i64 l.at_.wall) := rb'.cell 5
      have m6 : w7.cell? ⟨w6.heap.size, 6, none⟩ = some (.int .i64 l.at_.tie) := rb'.cell 6
      have m7 : w7.cell? ⟨w6.heap.size, 7, none⟩ = some (.bool x.drop) := rb'.cell 7
      clear rb' hW hSw hS5
      clear k0 k1 k2 l0 l1 l2 l3 l4 l5 l6 l7 l8 zs
      have rw_ := RW.out.keep HS5.out trivial
      have rl_ := RL.out.keep HS5.out trivial
      have k0 : w7.cell? ⟨w.heap.size, 0, none⟩ = some (.string (str x.key)) := rw_.cell 0
      have k1 : w7.cell? ⟨w.heap.size, 1, none⟩ = some (.bool x.drop) := rw_.cell 1
      have k2 : w7.cell? ⟨w.heap.size, 2, none⟩ = some (.string (str x.data)) := rw_.cell 2
      have l0 : w7.cell? ⟨w.heap.size + 1, 0, none⟩ = some (.int .i64 l.by_.node) := rl_.cell 0
      have l1 : w7.cell? ⟨w.heap.size + 1, 1, none⟩ = some (.int .i64 l.by_.life) := rl_.cell 1
      have l2 : w7.cell? ⟨w.heap.size + 1, 2, none⟩ = some (.int .i64 l.by_.seq) := rl_.cell 2
      have l3 : w7.cell? ⟨w.heap.size + 1, 3, none⟩ = some (.int .i64 l.by_.attempt) := rl_.cell 3
      have l4 : w7.cell? ⟨w.heap.size + 1, 4, none⟩ = some (.int .i64 l.home) := rl_.cell 4
      have l5 : w7.cell? ⟨w.heap.size + 1, 5, none⟩ = some (.int .i64 l.at_.wall) := rl_.cell 5
      have l6 : w7.cell? ⟨w.heap.size + 1, 6, none⟩ = some (.int .i64 l.at_.tie) := rl_.cell 6
      have l7 : w7.cell? ⟨w.heap.size + 1, 7, none⟩ = some (.bool l.drop) := rl_.cell 7
      have l8 : w7.cell? ⟨w.heap.size + 1, 8, none⟩ = some (.string (str l.data)) := rl_.cell 8
      have zs := rl_.lt
      clear rw_ rl_
      go_wp2_with (go_at_call 31; refine stopAt ?_)
      unfold Hid
      refine (mvmay_any v4 (lockF cs x.key (lockW x l)) _ _ Hd5.out.reads Hf4.out.good (Hf4.out.len (by omega)) (Hf4.out.vers (by omega))).mono ?_
      rintro e w8 ⟨rfl, hS6⟩
      have HS6 := Lib.hid (HS5.out.trans hS6)
      have Hc6 := Lib.hid (Hc5.out.keepAll hS6)
      have Hd6 := Lib.hid (Hd5.out.keepAll hS6)
      clear hS6 m0 m1 m2 m3 m4 m5 m6 m7 zb
      clear k0 k1 k2 l0 l1 l2 l3 l4 l5 l6 l7 l8 zs
      have rw_ := RW.out.keep HS6.out trivial
      have rl_ := RL.out.keep HS6.out trivial
      have k0 : w8.cell? ⟨w.heap.size, 0, none⟩ = some (.string (str x.key)) := rw_.cell 0
      have k1 : w8.cell? ⟨w.heap.size, 1, none⟩ = some (.bool x.drop) := rw_.cell 1
      have k2 : w8.cell? ⟨w.heap.size, 2, none⟩ = some (.string (str x.data)) := rw_.cell 2
      have l0 : w8.cell? ⟨w.heap.size + 1, 0, none⟩ = some (.int .i64 l.by_.node) := rl_.cell 0
      have l1 : w8.cell? ⟨w.heap.size + 1, 1, none⟩ = some (.int .i64 l.by_.life) := rl_.cell 1
      have l2 : w8.cell? ⟨w.heap.size + 1, 2, none⟩ = some (.int .i64 l.by_.seq) := rl_.cell 2
      have l3 : w8.cell? ⟨w.heap.size + 1, 3, none⟩ = some (.int .i64 l.by_.attempt) := rl_.cell 3
      have l4 : w8.cell? ⟨w.heap.size + 1, 4, none⟩ = some (.int .i64 l.home) := rl_.cell 4
      have l5 : w8.cell? ⟨w.heap.size + 1, 5, none⟩ = some (.int .i64 l.at_.wall) := rl_.cell 5
      have l6 : w8.cell? ⟨w.heap.size + 1, 6, none⟩ = some (.int .i64 l.at_.tie) := rl_.cell 6
      have l7 : w8.cell? ⟨w.heap.size + 1, 7, none⟩ = some (.bool l.drop) := rl_.cell 7
      have l8 : w8.cell? ⟨w.heap.size + 1, 8, none⟩ = some (.string (str l.data)) := rl_.cell 8
      have zs := rl_.lt
      clear rw_ rl_
      cases is
      · go_wp2_with (go_at_call 24; refine stopAt ?_)
        unfold Hid
        refine (mvmine_any (.slice Al nl cl) cs l.by_ _ w8 Hc6.out.reads (by have := Hf.out.len (by omega); omega)).mono ?_
        rintro e w9 ⟨rfl, hS7⟩
        have HS7 := Lib.hid (HS6.out.trans hS7)
        have Hc7 := Lib.hid (Hc6.out.keepAll hS7)
        have Hd7 := Lib.hid (Hd6.out.keepAll hS7)
        clear hS7
        clear k0 k1 k2 l0 l1 l2 l3 l4 l5 l6 l7 l8 zs
        have rw_ := RW.out.keep HS7.out trivial
        have rl_ := RL.out.keep HS7.out trivial
        have k0 : w9.cell? ⟨w.heap.size, 0, none⟩ = some (.string (str x.key)) := rw_.cell 0
        have k1 : w9.cell? ⟨w.heap.size, 1, none⟩ = some (.bool x.drop) := rw_.cell 1
        have k2 : w9.cell? ⟨w.heap.size, 2, none⟩ = some (.string (str x.data)) := rw_.cell 2
        have l0 : w9.cell? ⟨w.heap.size + 1, 0, none⟩ = some (.int .i64 l.by_.node) := rl_.cell 0
        have l1 : w9.cell? ⟨w.heap.size + 1, 1, none⟩ = some (.int .i64 l.by_.life) := rl_.cell 1
        have l2 : w9.cell? ⟨w.heap.size + 1, 2, none⟩ = some (.int .i64 l.by_.seq) := rl_.cell 2
        have l3 : w9.cell? ⟨w.heap.size + 1, 3, none⟩ = some (.int .i64 l.by_.attempt) := rl_.cell 3
        have l4 : w9.cell? ⟨w.heap.size + 1, 4, none⟩ = some (.int .i64 l.home) := rl_.cell 4
        have l5 : w9.cell? ⟨w.heap.size + 1, 5, none⟩ = some (.int .i64 l.at_.wall) := rl_.cell 5
        have l6 : w9.cell? ⟨w.heap.size + 1, 6, none⟩ = some (.int .i64 l.at_.tie) := rl_.cell 6
        have l7 : w9.cell? ⟨w.heap.size + 1, 7, none⟩ = some (.bool l.drop) := rl_.cell 7
        have l8 : w9.cell? ⟨w.heap.size + 1, 8, none⟩ = some (.string (str l.data)) := rl_.cell 8
        have zs := rl_.lt
        clear rw_ rl_
        cases hm : mineF cs l.by_
        · have p3 := P3.out (by simp) hm
          have E3 := Lib.hid p3
          clear hm p3
          go_wp2_with (go_at_call 25; refine stopAt ?_)
          unfold Hid
          have gs := mvsettle_any v4 (lockF cs x.key (lockW x l)) l.by_ false _ w9 Hd7.out.reads (Hf4.out.len (by omega)) (Hf4.out.vers (by omega)) Hf4.out.sort
          rw [E3.out] at gs
          refine gs.mono ?_
          rintro e w10 ⟨v8, rfl, hown8, hS8⟩
          have HS8 := Lib.hid (HS7.out.trans hS8)
          have Hc8 := Lib.hid (Hc7.out.keepAll hS8)
          have Hd8 := Lib.hid hown8
          clear hS8 hown8 gs
          clear k0 k1 k2 l0 l1 l2 l3 l4 l5 l6 l7 l8 zs
          go_wp2_with (go_at_call 29; refine stopAt ?_)
          unfold Hid
          refine (same_any v8 (.slice Al nl cl) cs _ _ w10 Hd8.out.reads Hc8.out.reads (Hf.out.len (by omega)) (Hf.out.vers (by omega))).mono ?_
          rintro e w11 ⟨rfl, hS9⟩
          have HS9 := Lib.hid (HS8.out.trans hS9)
          clear hS9
          go_wp2
          go_ret
          exact ⟨rfl, HS1.out.trans HS9.out⟩
        · clear hm
          go_wp2
          go_ret
          exact ⟨rfl, HS1.out.trans HS7.out⟩
      · go_wp2
        go_ret
        exact ⟨rfl, HS1.out.trans HS6.out⟩
end Go.Proofs.Ytoldelocfmpccaa
