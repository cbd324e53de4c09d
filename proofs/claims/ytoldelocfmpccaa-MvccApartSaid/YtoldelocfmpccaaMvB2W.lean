/-
  MvccApart: for all operations, nothing that is done to one key is told of another one: the walk.
-/
import Derived.Test.YtoldelocfmpccaaQ15
set_option linter.unusedSimpArgs false
set_option linter.unusedVariables false
namespace Go.Proofs.Ytoldelocfmpccaa
open Go.RowKit

set_option maxRecDepth 100000 in
set_option maxHeartbeats 4000000 in
theorem apart_walk (v : Value) (ops : List OpT) (x : Wr) (l : Lck) (yes : Bool) (key : List UInt8) (a : St) (w : World) (hv : OpsR w (fun q => q < w.heap.size) v ops) (hk1 : x.key.length ≤ maxLen) (hk2 : x.data.length ≤ maxLen) (hk3 : key.length ≤ 9223372036854775807) :
    Calls Try.prog 5 #[v, wrV x, lckV l, .bool yes, .string (str key), stV a] w fun e w' => e = .returned (.bool true) ∧ Same (fun _ => True) w w' := by
  have hv' := hv
  obtain ⟨A, c, rfl, hc, hm, -⟩ := hv'
  have Hops := Lib.hid hv
  obtain ⟨B, hBe⟩ : ∃ B, B = w.heap.size := ⟨_, rfl⟩
  have HBe := Lib.hid hBe
  have r0 := ((Row.new w 24 (wrCs x)).keep ((Same.refl (fun _ => True) _).alloc (.cells (lckCs l).toArray 30)) trivial).keep ((Same.refl (fun _ => True) _).alloc (.cells (stCs a).toArray 28)) trivial
  have r1 := (Row.new (w.alloc (.cells (wrCs x).toArray 24)) 30 (lckCs l)).keep ((Same.refl (fun _ => True) _).alloc (.cells (stCs a).toArray 28)) trivial
  have r2 := Row.new ((w.alloc (.cells (wrCs x).toArray 24)).alloc (.cells (lckCs l).toArray 30)) 28 (stCs a)
  have hS0 := (((Same.refl (fun _ => True) w).alloc (.cells (wrCs x).toArray 24)).alloc (.cells (lckCs l).toArray 30)).alloc (.cells (stCs a).toArray 28)
  rw [World.size_alloc] at r1
  rw [World.size_alloc, World.size_alloc] at r2
  have R0 := Lib.hid r0
  have R1 := Lib.hid r1
  have R2 := Lib.hid r2
  have HS0 := Lib.hid hS0
  unfold maxLen at hm hk1 hk2
  clear hv r0 r1 r2 hS0 hBe
  go_enter Try.func5, Try.ntmps5
  go_wp2_with (go_at_call 21; refine stopAt ?_)
  unfold Hid
  refine (begun_any _).mono ?_
  rintro e w1 ⟨rfl, hS1⟩
  have HS1 := Lib.hid (HS0.out.trans hS1)
  have RW := Lib.hid (R0.out.keep hS1 trivial)
  have RL := Lib.hid (R1.out.keep hS1 trivial)
  have RS := Lib.hid (R2.out.keep hS1 trivial)
  clear hS1 R0 R1 R2 HS0
  have z1 := RS.out.lt
  have rw_ := RW.out.keep (Same.refl (fun _ => True) w1) trivial
  have rl_ := RL.out.keep (Same.refl (fun _ => True) w1) trivial
  have rs_ := RS.out.keep (Same.refl (fun _ => True) w1) trivial
  have k0 : w1.cell? ⟨w.heap.size, 0, none⟩ = some (.string (str x.key)) := rw_.cell 0
  have k1 : w1.cell? ⟨w.heap.size, 1, none⟩ = some (.bool x.drop) := rw_.cell 1
  have k2 : w1.cell? ⟨w.heap.size, 2, none⟩ = some (.string (str x.data)) := rw_.cell 2
  have l0 : w1.cell? ⟨w.heap.size + 1, 0, none⟩ = some (.int .i64 l.by_.node) := rl_.cell 0
  have l1 : w1.cell? ⟨w.heap.size + 1, 1, none⟩ = some (.int .i64 l.by_.life) := rl_.cell 1
  have l2 : w1.cell? ⟨w.heap.size + 1, 2, none⟩ = some (.int .i64 l.by_.seq) := rl_.cell 2
  have l3 : w1.cell? ⟨w.heap.size + 1, 3, none⟩ = some (.int .i64 l.by_.attempt) := rl_.cell 3
  have l4 : w1.cell? ⟨w.heap.size + 1, 4, none⟩ = some (.int .i64 l.home) := rl_.cell 4
  have l5 : w1.cell? ⟨w.heap.size + 1, 5, none⟩ = some (.int .i64 l.at_.wall) := rl_.cell 5
  have l6 : w1.cell? ⟨w.heap.size + 1, 6, none⟩ = some (.int .i64 l.at_.tie) := rl_.cell 6
  have l7 : w1.cell? ⟨w.heap.size + 1, 7, none⟩ = some (.bool l.drop) := rl_.cell 7
  have l8 : w1.cell? ⟨w.heap.size + 1, 8, none⟩ = some (.string (str l.data)) := rl_.cell 8
  have s0 : w1.cell? ⟨w.heap.size + 2, 0, none⟩ = some (.int .i64 a.wall) := rs_.cell 0
  have s1 : w1.cell? ⟨w.heap.size + 2, 1, none⟩ = some (.int .i64 a.tie) := rs_.cell 1
  have zs := rs_.lt
  clear rw_ rl_ rs_
  go_wp2_with (go_at_call 22; refine stopAt ?_)
  unfold Hid
  refine (light_any (.slice A ops.length c) ops 40 _ w1 (SlOf.keep Hops.out (HS1.out.mono fun _ _ _ => trivial)) (by omega)).mono ?_
  rintro e w2 ⟨bl, rfl, hbl, rfl⟩
  cases bl
  · clear hbl
    go_wp2
    go_ret
    exact ⟨rfl, HS1.out⟩
  have hn := hbl rfl
  clear hbl
  have z2 : (str x.key).size = x.key.length := str_size _
  have z3 : (str x.data).size = x.data.length := str_size _
  have z4 : (str key).size = key.length := str_size _
  by_cases he : key = x.key
  · subst he
    go_wp2
    all_goals go_ret
    all_goals exact ⟨rfl, HS1.out⟩
  have q1 : ¬ (str key).toList = (str x.key).toList := by rw [ByteArray.toList_eq, ByteArray.toList_eq]; exact he
  have q2 : ((str key).toList == (str x.key).toList) = false := by simpa using q1
  have He := Lib.hid he
  clear he
  go_wp2
  all_goals try (go_ret; exact ⟨rfl, HS1.out⟩)
  clear k0 k1 k2 l0 l1 l2 l3 l4 l5 l6 l7 l8 s0 s1 zs
  go_loopw [13, 14] (fun v i wr => ∃ k : Nat, i = .int .i64 k ∧ k ≤ ops.length ∧ OwnC wr B v (runF (ops.take k)) ∧ Same (fun _ => True) w1 wr) (fun _ i _ => ops.length - (intOf i).toNat)
  case atStart => exact ⟨0, rfl, Nat.zero_le _, OwnC.nil _ _, Same.refl _ _⟩
  case round =>
    obtain ⟨k, rfl, hk, hown, hS⟩ := hrel
    have hf := run_fine ops k hk
    obtain ⟨Al, nl, cl, rfl, hl1, hl2⟩ := hown.form3
    have HS := Lib.hid hS
    have Hown := Lib.hid hown
    unfold maxLen at hl2
    by_cases hlt : k < ops.length
    · obtain ⟨ad, rfl, -, -, c0, hcs⟩ := ops_at (SlOf.keep Hops.out ((HS1.out.trans hS).mono fun _ _ _ => trivial)) hlt
      have x1 : (0 : Int) ≤ (k : Int) := by omega
      have x2 : (k : Int) < (ops.length : Int) := by omega
      have c1 := hcs 1 (by omega) (by omega)
      have c2 := hcs 2 (by omega) (by omega)
      have c3 := hcs 3 (by omega) (by omega)
      have c4 := hcs 4 (by omega) (by omega)
      have c5 := hcs 5 (by omega) (by omega)
      have c6 := hcs 6 (by omega) (by omega)
      have c7 := hcs 7 (by omega) (by omega)
      have c8 := hcs 8 (by omega) (by omega)
      have c9 := hcs 9 (by omega) (by omega)
      have c10 := hcs 10 (by omega) (by omega)
      have c11 := hcs 11 (by omega) (by omega)
      have c12 := hcs 12 (by omega) (by omega)
      have c13 := hcs 13 (by omega) (by omega)
      simp only [opCs, List.getElem?_cons_zero, List.getElem?_cons_succ] at c1 c2 c3 c4 c5 c6 c7 c8 c9 c10 c11 c12 c13
      have hst := runF_step hlt
      have gd := do_any (.slice Al nl cl) (runF (ops.take k)) ops[k] _ wr hown.reads hf.good (hf.len (by omega)) (hf.vers (by omega))
      rw [← hst] at gd
      have Hst := Lib.hid hst
      have hB := (HS1.out.trans hS).size
      clear hcs hown hS hf hst
      generalize ops[k] = o at *
      go_wp2_with (go_at_call 23; refine stopAt ?_)
      unfold Hid
      refine gd.mono ?_
      rintro e w5 ⟨v1, v2, rfl, hown5, -, hS5⟩
      have Hown5 := Lib.hid (hown5.lower (B' := B) (by rw [HBe.out]; exact hB))
      have HS5 := Lib.hid (HS.out.trans hS5)
      clear hown5 hS5 gd c0 c1 c2 c3 c4 c5 c6 c7 c8 c9 c10 c11 c12 c13
      go_wp2
      go_roundw
      case rel => exact ⟨k + 1, by go_num, by omega, Hown5.out, HS5.out⟩
      case measure => simp [intOf]; omega
    · obtain rfl : k = ops.length := by omega
      rw [List.take_length] at Hown hf
      obtain ⟨cs, hcs⟩ : ∃ cs, cs = runF ops := ⟨_, rfl⟩
      rw [← hcs] at Hown hf
      have Hf := Lib.hid hf
      clear hown hf hcs
      have hBw := (HS1.out.trans HS.out).size
      have rw_ := RW.out.keep HS.out trivial
      have rl_ := RL.out.keep HS.out trivial
      have rs_ := RS.out.keep HS.out trivial
      have k0 : wr.cell? ⟨w.heap.size, 0, none⟩ = some (.string (str x.key)) := rw_.cell 0
      have k1 : wr.cell? ⟨w.heap.size, 1, none⟩ = some (.bool x.drop) := rw_.cell 1
      have k2 : wr.cell? ⟨w.heap.size, 2, none⟩ = some (.string (str x.data)) := rw_.cell 2
      have l0 : wr.cell? ⟨w.heap.size + 1, 0, none⟩ = some (.int .i64 l.by_.node) := rl_.cell 0
      have l1 : wr.cell? ⟨w.heap.size + 1, 1, none⟩ = some (.int .i64 l.by_.life) := rl_.cell 1
      have l2 : wr.cell? ⟨w.heap.size + 1, 2, none⟩ = some (.int .i64 l.by_.seq) := rl_.cell 2
      have l3 : wr.cell? ⟨w.heap.size + 1, 3, none⟩ = some (.int .i64 l.by_.attempt) := rl_.cell 3
      have l4 : wr.cell? ⟨w.heap.size + 1, 4, none⟩ = some (.int .i64 l.home) := rl_.cell 4
      have l5 : wr.cell? ⟨w.heap.size + 1, 5, none⟩ = some (.int .i64 l.at_.wall) := rl_.cell 5
      have l6 : wr.cell? ⟨w.heap.size + 1, 6, none⟩ = some (.int .i64 l.at_.tie) := rl_.cell 6
      have l7 : wr.cell? ⟨w.heap.size + 1, 7, none⟩ = some (.bool l.drop) := rl_.cell 7
      have l8 : wr.cell? ⟨w.heap.size + 1, 8, none⟩ = some (.string (str l.data)) := rl_.cell 8
      have s0 : wr.cell? ⟨w.heap.size + 2, 0, none⟩ = some (.int .i64 a.wall) := rs_.cell 0
      have s1 : wr.cell? ⟨w.heap.size + 2, 1, none⟩ = some (.int .i64 a.tie) := rs_.cell 1
      have zs := rs_.lt
      clear rw_ rl_ rs_
      clear hS
      go_wp2_with (go_at_call 24; refine stopAt ?_)
      unfold Hid
      refine (mvmine_any (.slice Al nl cl) cs l.by_ _ wr Hown.out.reads (by have := Hf.out.len (by omega); omega)).mono ?_
      rintro e w3 ⟨rfl, hS3⟩
      have HS3 := Lib.hid (HS.out.trans hS3)
      have Hown3 := Lib.hid (Hown.out.keepAll hS3)
      clear hS3
      clear k0 k1 k2 l0 l1 l2 l3 l4 l5 l6 l7 l8 s0 s1 zs
      have rw_ := RW.out.keep HS3.out trivial
      have rl_ := RL.out.keep HS3.out trivial
      have rs_ := RS.out.keep HS3.out trivial
      have k0 : w3.cell? ⟨w.heap.size, 0, none⟩ = some (.string (str x.key)) := rw_.cell 0
      have k1 : w3.cell? ⟨w.heap.size, 1, none⟩ = some (.bool x.drop) := rw_.cell 1
      have k2 : w3.cell? ⟨w.heap.size, 2, none⟩ = some (.string (str x.data)) := rw_.cell 2
      have l0 : w3.cell? ⟨w.heap.size + 1, 0, none⟩ = some (.int .i64 l.by_.node) := rl_.cell 0
      have l1 : w3.cell? ⟨w.heap.size + 1, 1, none⟩ = some (.int .i64 l.by_.life) := rl_.cell 1
      have l2 : w3.cell? ⟨w.heap.size + 1, 2, none⟩ = some (.int .i64 l.by_.seq) := rl_.cell 2
      have l3 : w3.cell? ⟨w.heap.size + 1, 3, none⟩ = some (.int .i64 l.by_.attempt) := rl_.cell 3
      have l4 : w3.cell? ⟨w.heap.size + 1, 4, none⟩ = some (.int .i64 l.home) := rl_.cell 4
      have l5 : w3.cell? ⟨w.heap.size + 1, 5, none⟩ = some (.int .i64 l.at_.wall) := rl_.cell 5
      have l6 : w3.cell? ⟨w.heap.size + 1, 6, none⟩ = some (.int .i64 l.at_.tie) := rl_.cell 6
      have l7 : w3.cell? ⟨w.heap.size + 1, 7, none⟩ = some (.bool l.drop) := rl_.cell 7
      have l8 : w3.cell? ⟨w.heap.size + 1, 8, none⟩ = some (.string (str l.data)) := rl_.cell 8
      have s0 : w3.cell? ⟨w.heap.size + 2, 0, none⟩ = some (.int .i64 a.wall) := rs_.cell 0
      have s1 : w3.cell? ⟨w.heap.size + 2, 1, none⟩ = some (.int .i64 a.tie) := rs_.cell 1
      have zs := rs_.lt
      clear rw_ rl_ rs_
      cases hm : mineF cs l.by_
      · obtain ⟨p1, p2⟩ := apart_plain Hf.out.good x l hm yes (key := key) (fun h => He.out h) a
        have P1 := Lib.hid p1
        have P2 := Lib.hid p2
        clear hm p1 p2
        go_wp2_with (go_at_call 26; refine stopAt ?_)
        unfold Hid
        refine (mvlock_any (.slice Al nl cl) cs x l _ w3 Hown3.out.reads (Hf.out.len (by omega)) (Hf.out.vers (by omega)) Hf.out.good.sorted).mono ?_
        rintro e w4 ⟨v4, rfl, hown4, hS4⟩
        have HS4 := Lib.hid (HS3.out.trans hS4)
        have Hf4 := Lib.hid (Hf.out.lock x l)
        have Hd4 := Lib.hid hown4
        have Hc4 := Lib.hid (Hown3.out.keepAll hS4)
        clear hS4 hown4
        clear k0 k1 k2 l0 l1 l2 l3 l4 l5 l6 l7 l8 s0 s1 zs
        have rw_ := RW.out.keep HS4.out trivial
        have rl_ := RL.out.keep HS4.out trivial
        have rs_ := RS.out.keep HS4.out trivial
        have k0 : w4.cell? ⟨w.heap.size, 0, none⟩ = some (.string (str x.key)) := rw_.cell 0
        have k1 : w4.cell? ⟨w.heap.size, 1, none⟩ = some (.bool x.drop) := rw_.cell 1
        have k2 : w4.cell? ⟨w.heap.size, 2, none⟩ = some (.string (str x.data)) := rw_.cell 2
        have l0 : w4.cell? ⟨w.heap.size + 1, 0, none⟩ = some (.int .i64 l.by_.node) := rl_.cell 0
        have l1 : w4.cell? ⟨w.heap.size + 1, 1, none⟩ = some (.int .i64 l.by_.life) := rl_.cell 1
        have l2 : w4.cell? ⟨w.heap.size + 1, 2, none⟩ = some (.int .i64 l.by_.seq) := rl_.cell 2
        have l3 : w4.cell? ⟨w.heap.size + 1, 3, none⟩ = some (.int .i64 l.by_.attempt) := rl_.cell 3
        have l4 : w4.cell? ⟨w.heap.size + 1, 4, none⟩ = some (.int .i64 l.home) := rl_.cell 4
        have l5 : w4.cell? ⟨w.heap.size + 1, 5, none⟩ = some (.int .i64 l.at_.wall) := rl_.cell 5
        have l6 : w4.cell? ⟨w.heap.size + 1, 6, none⟩ = some (.int .i64 l.at_.tie) := rl_.cell 6
        have l7 : w4.cell? ⟨w.heap.size + 1, 7, none⟩ = some (.bool l.drop) := rl_.cell 7
        have l8 : w4.cell? ⟨w.heap.size + 1, 8, none⟩ = some (.string (str l.data)) := rl_.cell 8
        have s0 : w4.cell? ⟨w.heap.size + 2, 0, none⟩ = some (.int .i64 a.wall) := rs_.cell 0
        have s1 : w4.cell? ⟨w.heap.size + 2, 1, none⟩ = some (.int .i64 a.tie) := rs_.cell 1
        have zs := rs_.lt
        clear rw_ rl_ rs_
        go_wp2_with (go_at_call 25; refine stopAt ?_)
        unfold Hid
        refine (mvsettle_any v4 (lockF cs x.key (lockW x l)) l.by_ yes _ w4 Hd4.out.reads (Hf4.out.len (by omega)) (Hf4.out.vers (by omega)) Hf4.out.sort).mono ?_
        rintro e w5 ⟨v5, rfl, hown5, hS5⟩
        have HS5 := Lib.hid (HS4.out.trans hS5)
        have Hf5 := Lib.hid (Hf4.out.setl l.by_ yes)
        have He5 := Lib.hid hown5
        have Hc5 := Lib.hid (Hc4.out.keepAll hS5)
        have Hd5 := Lib.hid (Hd4.out.keepAll hS5)
        clear hS5 hown5
        clear k0 k1 k2 l0 l1 l2 l3 l4 l5 l6 l7 l8 s0 s1 zs
        have rw_ := RW.out.keep HS5.out trivial
        have rl_ := RL.out.keep HS5.out trivial
        have rs_ := RS.out.keep HS5.out trivial
        have k0 : w5.cell? ⟨w.heap.size, 0, none⟩ = some (.string (str x.key)) := rw_.cell 0
        have k1 : w5.cell? ⟨w.heap.size, 1, none⟩ = some (.bool x.drop) := rw_.cell 1
        have k2 : w5.cell? ⟨w.heap.size, 2, none⟩ = some (.string (str x.data)) := rw_.cell 2
        have l0 : w5.cell? ⟨w.heap.size + 1, 0, none⟩ = some (.int .i64 l.by_.node) := rl_.cell 0
        have l1 : w5.cell? ⟨w.heap.size + 1, 1, none⟩ = some (.int .i64 l.by_.life) := rl_.cell 1
        have l2 : w5.cell? ⟨w.heap.size + 1, 2, none⟩ = some (.int .i64 l.by_.seq) := rl_.cell 2
        have l3 : w5.cell? ⟨w.heap.size + 1, 3, none⟩ = some (.int .i64 l.by_.attempt) := rl_.cell 3
        have l4 : w5.cell? ⟨w.heap.size + 1, 4, none⟩ = some (.int .i64 l.home) := rl_.cell 4
        have l5 : w5.cell? ⟨w.heap.size + 1, 5, none⟩ = some (.int .i64 l.at_.wall) := rl_.cell 5
        have l6 : w5.cell? ⟨w.heap.size + 1, 6, none⟩ = some (.int .i64 l.at_.tie) := rl_.cell 6
        have l7 : w5.cell? ⟨w.heap.size + 1, 7, none⟩ = some (.bool l.drop) := rl_.cell 7
        have l8 : w5.cell? ⟨w.heap.size + 1, 8, none⟩ = some (.string (str l.data)) := rl_.cell 8
        have s0 : w5.cell? ⟨w.heap.size + 2, 0, none⟩ = some (.int .i64 a.wall) := rs_.cell 0
        have s1 : w5.cell? ⟨w.heap.size + 2, 1, none⟩ = some (.int .i64 a.tie) := rs_.cell 1
        have zs := rs_.lt
        clear rw_ rl_ rs_
        go_wp2_with (go_at_call 27; refine stopAt ?_)
        unfold Hid
        refine (mvget_any (.slice Al nl cl) cs key a _ w5 Hc5.out.reads Hf.out.good.sorted (by have := Hf.out.len (by omega); omega)).mono ?_
        rintro e w6 ⟨rfl, hS6⟩
        have HS6 := Lib.hid (HS5.out.trans hS6)
        have He6 := Lib.hid (He5.out.keepAll hS6)
        have Hc6 := Lib.hid (Hc5.out.keepAll hS6)
        have Hd6 := Lib.hid (Hd5.out.keepAll hS6)
        clear hS6
        clear k0 k1 k2 l0 l1 l2 l3 l4 l5 l6 l7 l8 s0 s1 zs
        have rw_ := RW.out.keep HS6.out trivial
        have rl_ := RL.out.keep HS6.out trivial
        have rs_ := RS.out.keep HS6.out trivial
        have k0 : w6.cell? ⟨w.heap.size, 0, none⟩ = some (.string (str x.key)) := rw_.cell 0
        have k1 : w6.cell? ⟨w.heap.size, 1, none⟩ = some (.bool x.drop) := rw_.cell 1
        have k2 : w6.cell? ⟨w.heap.size, 2, none⟩ = some (.string (str x.data)) := rw_.cell 2
        have l0 : w6.cell? ⟨w.heap.size + 1, 0, none⟩ = some (.int .i64 l.by_.node) := rl_.cell 0
        have l1 : w6.cell? ⟨w.heap.size + 1, 1, none⟩ = some (.int .i64 l.by_.life) := rl_.cell 1
        have l2 : w6.cell? ⟨w.heap.size + 1, 2, none⟩ = some (.int .i64 l.by_.seq) := rl_.cell 2
        have l3 : w6.cell? ⟨w.heap.size + 1, 3, none⟩ = some (.int .i64 l.by_.attempt) := rl_.cell 3
        have l4 : w6.cell? ⟨w.heap.size + 1, 4, none⟩ = some (.int .i64 l.home) := rl_.cell 4
        have l5 : w6.cell? ⟨w.heap.size + 1, 5, none⟩ = some (.int .i64 l.at_.wall) := rl_.cell 5
        have l6 : w6.cell? ⟨w.heap.size + 1, 6, none⟩ = some (.int .i64 l.at_.tie) := rl_.cell 6
        have l7 : w6.cell? ⟨w.heap.size + 1, 7, none⟩ = some (.bool l.drop) := rl_.cell 7
        have l8 : w6.cell? ⟨w.heap.size + 1, 8, none⟩ = some (.string (str l.data)) := rl_.cell 8
        have s0 : w6.cell? ⟨w.heap.size + 2, 0, none⟩ = some (.int .i64 a.wall) := rs_.cell 0
        have s1 : w6.cell? ⟨w.heap.size + 2, 1, none⟩ = some (.int .i64 a.tie) := rs_.cell 1
        have zs := rs_.lt
        clear rw_ rl_ rs_
        go_wp2_with (go_at_call 27; refine stopAt ?_)
        unfold Hid
        have gg := mvget_any v5 (setlF (lockF cs x.key (lockW x l)) l.by_ yes) key a _ w6 He6.out.reads Hf5.out.good.sorted (by have := Hf5.out.len (by omega); omega)
        rw [P1.out] at gg
        refine gg.mono ?_
        rintro e w7 ⟨rfl, hS7⟩
        have HS7 := Lib.hid (HS6.out.trans hS7)
        have Hc7 := Lib.hid (Hc6.out.keepAll hS7)
        have Hd7 := Lib.hid (Hd6.out.keepAll hS7)
        clear hS7 gg
        obtain ⟨⟨g1, g2⟩, hg⟩ : ∃ r, r = getF cs key a := ⟨_, rfl⟩
        rw [← hg]
        clear hg
        clear k0 k1 k2 l0 l1 l2 l3 l4 l5 l6 l7 l8 s0 s1 zs
        go_wp2_with (go_at_call 30; refine stopAt ?_)
        unfold Hid
        refine (mvheld_any (.slice Al nl cl) cs key _ w7 Hc7.out.reads Hf.out.good.sorted (by have := Hf.out.len (by omega); omega)).mono ?_
        rintro e w8 ⟨rfl, hS8⟩
        have HS8 := Lib.hid (HS7.out.trans hS8)
        have Hd8 := Lib.hid (Hd7.out.keepAll hS8)
        have gh := fun W h => mvheld_any v4 (lockF cs x.key (lockW x l)) key (fun k => w3.heap.size ≤ k) W h Hf4.out.good.sorted (by have := Hf4.out.len (by omega); omega)
        rw [P2.out] at gh
        clear hS8
        obtain ⟨⟨h1, h2⟩, hh⟩ : ∃ r, r = heldF cs key := ⟨_, rfl⟩
        rw [← hh] at gh ⊢
        clear hh
        have rb := Row.new w8 30 (lckCs h1)
        have hS9 := (Same.refl (fun _ => True) w8).alloc (.cells (lckCs h1).toArray 30)
        have RB := Lib.hid rb
        have HS9 := Lib.hid hS9
        clear rb hS9
        go_wp2_with (go_at_call 30; refine stopAt ?_)
        unfold Hid
        refine (gh _ (Hd8.out.keepAll HS9.out).reads).mono ?_
        rintro e w10 ⟨rfl, hS10⟩
        have rb := RB.out.keep hS10 trivial
        have m0 : w10.cell? ⟨w8.heap.size, 0, none⟩ = some (.int .i64 h1.by_.node) := rb.cell 0
        have m1 : w10.cell? ⟨w8.heap.size, 1, none⟩ = some (.int .i64 h1.by_.life) := rb.cell 1
        have m2 : w10.cell? ⟨w8.heap.size, 2, none⟩ = some (.int .i64 h1.by_.seq) := rb.cell 2
        have m3 : w10.cell? ⟨w8.heap.size, 3, none⟩ = some (.int .i64 h1.by_.attempt) := rb.cell 3
        have m4 : w10.cell? ⟨w8.heap.size, 4, none⟩ = some (.int .i64 h1.home) := rb.cell 4
        have m5 : w10.cell? ⟨w8.heap.size, 5, none⟩ = some (.int .i64 h1.at_.wall) := rb.cell 5
        have m6 : w10.cell? ⟨w8.heap.size, 6, none⟩ = some (.int .i64 h1.at_.tie) := rb.cell 6
        have m7 : w10.cell? ⟨w8.heap.size, 7, none⟩ = some (.bool h1.drop) := rb.cell 7
        have m8 : w10.cell? ⟨w8.heap.size, 8, none⟩ = some (.string (str h1.data)) := rb.cell 8
        have zb := rb.lt
        have HS10 := Lib.hid ((HS8.out.trans HS9.out).trans hS10)
        clear rb hS10 gh
        go_wp2
        go_ret
        exact ⟨rfl, (HS1.out.trans HS10.out).alloc _⟩
      · clear hm
        go_wp2
        go_ret
        exact ⟨rfl, HS1.out.trans HS3.out⟩
end Go.Proofs.Ytoldelocfmpccaa
