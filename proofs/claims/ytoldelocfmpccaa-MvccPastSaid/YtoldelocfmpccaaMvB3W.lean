/-
  MvccPast: for all operations, what settles leaves what was told before its stamp: the walk.
-/
import Derived.Test.YtoldelocfmpccaaQ15
set_option linter.unusedSimpArgs false
set_option linter.unusedVariables false
namespace Go.Proofs.Ytoldelocfmpccaa
open Go.RowKit

set_option maxRecDepth 100000 in
set_option maxHeartbeats 4000000 in
theorem past_walk (v : Value) (ops : List OpT) (x : Wr) (l : Lck) (yes : Bool) (a : St) (w : World) (hv : OpsR w (fun q => q < w.heap.size) v ops) (hk1 : x.key.length ≤ maxLen) (hk2 : x.data.length ≤ maxLen) :
    Calls Try.prog 3 #[v, wrV x, lckV l, .bool yes, stV a] w fun e w' => e = .returned (.bool true) ∧ Same (fun _ => True) w w' := by
  have hv' := hv
  obtain ⟨A, c, rfl, hc, hm, -⟩ := hv'
  have Hops := Lib.hid hv
  obtain ⟨B, hBe⟩ : ∃ B, B = w.heap.size := ⟨_, rfl⟩
  have HBe := Lib.hid hBe
  have r0 := ((Row.new w 24 (wrCs x)).keep ((Same.refl (fun _ => True) _).alloc (.cells (lckCs l).toArray 30)) trivial).keep ((Same.refl (fun _ => True) _).alloc (.cells (stCs a).toArray 28)) trivial
  have r1 := (Row.new (w.alloc (.cells (wrCs x).toArray 24)) 30 (lckCs l)).keep ((Same.refl (fun _ => True) _).alloc (.cells (stCs a).toArray 28)) trivial
  have r2 := Row.new ((w.alloc (.cells (wrCs x).toArray 24)).alloc (.cells (lckCs l).toArray 30)) 28 (stCs a)
  have hS0 := (((Same.refl (fun _ => True) w).alloc (.cells (wrCs x).toArray 24)).alloc (.cells (lckCs l).toArray 30)).alloc (.cells (stCs a).toArray 28)
  rw [World.size_alloc] at r1
  rw [World.size_alloc, World.size_alloc] at r2
  have R0 := Lib.hid r0
  have R1 := Lib.hid r1
  have R2 := Lib.hid r2
  have HS0 := Lib.hid hS0
  unfold maxLen at hm hk1 hk2
  clear hv r0 r1 r2 hS0 hBe
  go_enter Try.func3, Try.ntmps3
  go_wp2_with (go_at_call 21; refine stopAt ?_)
  unfold Hid
  refine (begun_any _).mono ?_
  rintro e w1 ⟨rfl, hS1⟩
  have HS1 := Lib.hid (HS0.out.trans hS1)
  have RW := Lib.hid (R0.out.keep hS1 trivial)
  have RL := Lib.hid (R1.out.keep hS1 trivial)
  have RS := Lib.hid (R2.out.keep hS1 trivial)
  clear hS1 R0 R1 R2 HS0
  have z1 := RS.out.lt
  have rw_ := RW.out.keep (Same.refl (fun _ => True) w1) trivial
  have rl_ := RL.out.keep (Same.refl (fun _ => True) w1) trivial
  have rs_ := RS.out.keep (Same.refl (fun _ => True) w1) trivial
  have k0 : w1.cell? ⟨w.heap.size, 0, none⟩ = some (.string (str x.key)) := rw_.cell 0
  have k1 : w1.cell? ⟨w.heap.size, 1, none⟩ = some (.bool x.drop) := rw_.cell 1
  have k2 : w1.cell? ⟨w.heap.size, 2, none⟩ = some (.string (str x.data)) := rw_.cell 2
  have l0 : w1.cell? ⟨w.heap.size + 1, 0, none⟩ = some (.int .i64 l.by_.node) := rl_.cell 0
  have l1 : w1.cell? ⟨w.heap.size + 1, 1, none⟩ = some (.int .i64 l.by_.life) := rl_.cell 1
  have l2 : w1.cell? ⟨w.heap.size + 1, 2, none⟩ = some (.int .i64 l.by_.seq) := rl_.cell 2
  have l3 : w1.cell? ⟨w.heap.size + 1, 3, none⟩ = some (.int .i64 l.by_.attempt) := rl_.cell 3
  have l4 : w1.cell? ⟨w.heap.size + 1, 4, none⟩ = some (.int .i64 l.home) := rl_.cell 4
  have l5 : w1.cell? ⟨w.heap.size + 1, 5, none⟩ = some (.int .i64 l.at_.wall) := rl_.cell 5
  have l6 : w1.cell? ⟨w.heap.size + 1, 6, none⟩ = some (.int .i64 l.at_.tie) := rl_.cell 6
  have l7 : w1.cell? ⟨w.heap.size + 1, 7, none⟩ = some (.bool l.drop) := rl_.cell 7
  have l8 : w1.cell? ⟨w.heap.size + 1, 8, none⟩ = some (.string (str l.data)) := rl_.cell 8
  have s0 : w1.cell? ⟨w.heap.size + 2, 0, none⟩ = some (.int .i64 a.wall) := rs_.cell 0
  have s1 : w1.cell? ⟨w.heap.size + 2, 1, none⟩ = some (.int .i64 a.tie) := rs_.cell 1
  have zs := rs_.lt
  clear rw_ rl_ rs_
  go_wp2_with (go_at_call 22; refine stopAt ?_)
  unfold Hid
  refine (light_any (.slice A ops.length c) ops 40 _ w1 (SlOf.keep Hops.out (HS1.out.mono fun _ _ _ => trivial)) (by omega)).mono ?_
  rintro e w2 ⟨bl, rfl, hbl, rfl⟩
  cases bl
  · clear hbl
    go_wp2
    go_ret
    exact ⟨rfl, HS1.out⟩
  have hn := hbl rfl
  clear hbl
  have z2 : (str x.key).size = x.key.length := str_size _
  have z3 : (str x.data).size = x.data.length := str_size _
  go_wp2
  all_goals try (go_ret; exact ⟨rfl, HS1.out⟩)
  clear k0 k1 k2 l0 l1 l2 l3 l4 l5 l6 l7 l8 s0 s1 zs
  go_loopw [11, 12] (fun v i wr => ∃ k : Nat, i = .int .i64 k ∧ k ≤ ops.length ∧ OwnC wr B v (runF (ops.take k)) ∧ Same (fun _ => True) w1 wr) (fun _ i _ => ops.length - (intOf i).toNat)
  case atStart => exact ⟨0, rfl, Nat.zero_le _, OwnC.nil _ _, Same.refl _ _⟩
  case round =>
    obtain ⟨k, rfl, hk, hown, hS⟩ := hrel
    have hf := run_fine ops k hk
    obtain ⟨Al, nl, cl, rfl, hl1, hl2⟩ := hown.form3
    have HS := Lib.hid hS
    have Hown := Lib.hid hown
    unfold maxLen at hl2
    by_cases hlt : k < ops.length
    · obtain ⟨ad, rfl, -, -, c0, hcs⟩ := ops_at (SlOf.keep Hops.out ((HS1.out.trans hS).mono fun _ _ _ => trivial)) hlt
      have x1 : (0 : Int) ≤ (k : Int) := by omega
      have x2 : (k : Int) < (ops.length : Int) := by omega
      have c1 := hcs 1 (by omega) (by omega)
      have c2 := hcs 2 (by omega) (by omega)
      have c3 := hcs 3 (by omega) (by omega)
      have c4 := hcs 4 (by omega) (by omega)
      have c5 := hcs 5 (by omega) (by omega)
      have c6 := hcs 6 (by omega) (by omega)
      have c7 := hcs 7 (by omega) (by omega)
      have c8 := hcs 8 (by omega) (by omega)
      have c9 := hcs 9 (by omega) (by omega)
      have c10 := hcs 10 (by omega) (by omega)
      have c11 := hcs 11 (by omega) (by omega)
      have c12 := hcs 12 (by omega) (by omega)
      have c13 := hcs 13 (by omega) (by omega)
      simp only [opCs, List.getElem?_cons_zero, List.getElem?_cons_succ] at c1 c2 c3 c4 c5 c6 c7 c8 c9 c10 c11 c12 c13
      have hst := runF_step hlt
      have gd := do_any (.slice Al nl cl) (runF (ops.take k)) ops[k] _ wr hown.reads hf.good (hf.len (by omega)) (hf.vers (by omega))
      rw [← hst] at gd
      have Hst := Lib.hid hst
      have hB := (HS1.out.trans hS).size
      clear hcs hown hS hf hst
      generalize ops[k] = o at *
      go_wp2_with (go_at_call 23; refine stopAt ?_)
      unfold Hid
      refine gd.mono ?_
      rintro e w5 ⟨v1, v2, rfl, hown5, -, hS5⟩
      have Hown5 := Lib.hid (hown5.lower (B' := B) (by rw [HBe.out]; exact hB))
      have HS5 := Lib.hid (HS.out.trans hS5)
      clear hown5 hS5 gd c0 c1 c2 c3 c4 c5 c6 c7 c8 c9 c10 c11 c12 c13
      go_wp2
      go_roundw
      case rel => exact ⟨k + 1, by go_num, by omega, Hown5.out, HS5.out⟩
      case measure => simp [intOf]; omega
    · obtain rfl : k = ops.length := by omega
      rw [List.take_length] at Hown hf
      obtain ⟨cs, hcs⟩ : ∃ cs, cs = runF ops := ⟨_, rfl⟩
      rw [← hcs] at Hown hf
      have Hf := Lib.hid hf
      clear hown hf hcs
      have hBw := (HS1.out.trans HS.out).size
      have rw_ := RW.out.keep HS.out trivial
      have rl_ := RL.out.keep HS.out trivial
      have rs_ := RS.out.keep HS.out trivial
      have k0 : wr.cell? ⟨w.heap.size, 0, none⟩ = some (.string (str x.key)) := rw_.cell 0
      have k1 : wr.cell? ⟨w.heap.size, 1, none⟩ = some (.bool x.drop) := rw_.cell 1
      have k2 : wr.cell? ⟨w.heap.size, 2, none⟩ = some (.string (str x.data)) := rw_.cell 2
      have l0 : wr.cell? ⟨w.heap.size + 1, 0, none⟩ = some (.int .i64 l.by_.node) := rl_.cell 0
      have l1 : wr.cell? ⟨w.heap.size + 1, 1, none⟩ = some (.int .i64 l.by_.life) := rl_.cell 1
      have l2 : wr.cell? ⟨w.heap.size + 1, 2, none⟩ = some (.int .i64 l.by_.seq) := rl_.cell 2
      have l3 : wr.cell? ⟨w.heap.size + 1, 3, none⟩ = some (.int .i64 l.by_.attempt) := rl_.cell 3
      have l4 : wr.cell? ⟨w.heap.size + 1, 4, none⟩ = some (.int .i64 l.home) := rl_.cell 4
      have l5 : wr.cell? ⟨w.heap.size + 1, 5, none⟩ = some (.int .i64 l.at_.wall) := rl_.cell 5
      have l6 : wr.cell? ⟨w.heap.size + 1, 6, none⟩ = some (.int .i64 l.at_.tie) := rl_.cell 6
      have l7 : wr.cell? ⟨w.heap.size + 1, 7, none⟩ = some (.bool l.drop) := rl_.cell 7
      have l8 : wr.cell? ⟨w.heap.size + 1, 8, none⟩ = some (.string (str l.data)) := rl_.cell 8
      have s0 : wr.cell? ⟨w.heap.size + 2, 0, none⟩ = some (.int .i64 a.wall) := rs_.cell 0
      have s1 : wr.cell? ⟨w.heap.size + 2, 1, none⟩ = some (.int .i64 a.tie) := rs_.cell 1
      have zs := rs_.lt
      clear rw_ rl_ rs_
      clear hS
      go_wp2_with (go_at_call 24; refine stopAt ?_)
      unfold Hid
      refine (mvmine_any (.slice Al nl cl) cs l.by_ _ wr Hown.out.reads (by have := Hf.out.len (by omega); omega)).mono ?_
      rintro e w3 ⟨rfl, hS3⟩
      have HS3 := Lib.hid (HS.out.trans hS3)
      have Hown3 := Lib.hid (Hown.out.keepAll hS3)
      have hB3 : B ≤ w3.heap.size := by rw [HBe.out]; exact ((HS1.out.trans HS.out).trans hS3).size
      clear hS3
      clear k0 k1 k2 l0 l1 l2 l3 l4 l5 l6 l7 l8 s0 s1 zs
      have rw_ := RW.out.keep HS3.out trivial
      have rl_ := RL.out.keep HS3.out trivial
      have rs_ := RS.out.keep HS3.out trivial
      have k0 : w3.cell? ⟨w.heap.size, 0, none⟩ = some (.string (str x.key)) := rw_.cell 0
      have k1 : w3.cell? ⟨w.heap.size, 1, none⟩ = some (.bool x.drop) := rw_.cell 1
      have k2 : w3.cell? ⟨w.heap.size, 2, none⟩ = some (.string (str x.data)) := rw_.cell 2
      have l0 : w3.cell? ⟨w.heap.size + 1, 0, none⟩ = some (.int .i64 l.by_.node) := rl_.cell 0
      have l1 : w3.cell? ⟨w.heap.size + 1, 1, none⟩ = some (.int .i64 l.by_.life) := rl_.cell 1
      have l2 : w3.cell? ⟨w.heap.size + 1, 2, none⟩ = some (.int .i64 l.by_.seq) := rl_.cell 2
      have l3 : w3.cell? ⟨w.heap.size + 1, 3, none⟩ = some (.int .i64 l.by_.attempt) := rl_.cell 3
      have l4 : w3.cell? ⟨w.heap.size + 1, 4, none⟩ = some (.int .i64 l.home) := rl_.cell 4
      have l5 : w3.cell? ⟨w.heap.size + 1, 5, none⟩ = some (.int .i64 l.at_.wall) := rl_.cell 5
      have l6 : w3.cell? ⟨w.heap.size + 1, 6, none⟩ = some (.int .i64 l.at_.tie) := rl_.cell 6
      have l7 : w3.cell? ⟨w.heap.size + 1, 7, none⟩ = some (.bool l.drop) := rl_.cell 7
      have l8 : w3.cell? ⟨w.heap.size + 1, 8, none⟩ = some (.string (str l.data)) := rl_.cell 8
      have s0 : w3.cell? ⟨w.heap.size + 2, 0, none⟩ = some (.int .i64 a.wall) := rs_.cell 0
      have s1 : w3.cell? ⟨w.heap.size + 2, 1, none⟩ = some (.int .i64 a.tie) := rs_.cell 1
      have zs := rs_.lt
      clear rw_ rl_ rs_
      cases hm : mineF cs l.by_
      case true =>
        clear hm
        go_wp2
        go_ret
        exact ⟨rfl, HS1.out.trans HS3.out⟩
      obtain ⟨p1, p2⟩ := past_plain Hf.out.good x l hm yes a
      have P1 := Lib.hid p1
      have P2 := Lib.hid p2
      have Hf4 := Lib.hid (Hf.out.lock x l)
      have Hf5 := Lib.hid ((Hf.out.lock x l).setl l.by_ yes)
      clear hm p1 p2
      go_wp2
      refine wp_region_vals_lit (L := [.eq (.slice Al nl cl), .eq (wrV x), .eq (lckV l), ⟨fun v w => OwnC w B v (lockF cs x.key (lockW x l)), fun _ _ _ h k => h.keepAll k⟩, .eq (.pointer (some ⟨w.heap.size + 1, 0, none⟩)), .eq (tryV l.by_), .eq (.bool yes), ⟨fun v w => OwnC w B v (setlF (lockF cs x.key (lockW x l)) l.by_ yes), fun _ _ _ h k => h.keepAll k⟩, ⟨fun v w => OwnC w B v (setlF (lockF cs x.key (lockW x l)) l.by_ yes), fun _ _ _ h k => h.keepAll k⟩]) (by kernel_rfl) (by kernel_rfl) rfl rfl ?_ ?_
      · refine ⟨?_, ?_, ?_, ?_, ?_, ?_, ?_, ?_, ?_, trivial⟩
        · intro ac wc hs hd hz hf hw K hK
          have e0 : ac.eval (.tmp 11) = (.slice Al nl cl) := hf 11 rfl
          clear hd hz hf hw
          simp only [Region.wanted, if_true, Oper.wp, execOp, resolve, List.map_toArray, List.map_cons, List.map_nil, Option.map_some, Option.map_none, e0]
          go_simp
          exact hK _ _ rfl (Same.refl _ _)
        · intro ac wc hs hd hz hf hw K hK
          have e0 : ac.eval (.tmp 6) = (.pointer (some ⟨w.heap.size, 0, none⟩)) := hf 6 rfl
          have m0 : wc.cell? ⟨w.heap.size, 0, none⟩ = some (.string (str x.key)) := hs.cell (p := ⟨w.heap.size, 0, none⟩) trivial k0
          have m1 : wc.cell? ⟨w.heap.size, 1, none⟩ = some (.bool x.drop) := hs.cell (p := ⟨w.heap.size, 1, none⟩) trivial k1
          have m2 : wc.cell? ⟨w.heap.size, 2, none⟩ = some (.string (str x.data)) := hs.cell (p := ⟨w.heap.size, 2, none⟩) trivial k2
          clear hd hz hf hw
          simp only [Region.wanted, if_true, Oper.wp, execOp, resolve, List.map_toArray, List.map_cons, List.map_nil, Option.map_some, Option.map_none, e0]
          go_simp
          exact hK _ _ rfl (Same.refl _ _)
        · intro ac wc hs hd hz hf hw K hK
          have e0 : ac.eval (.tmp 7) = (.pointer (some ⟨w.heap.size + 1, 0, none⟩)) := hf 7 rfl
          have m0 : wc.cell? ⟨w.heap.size + 1, 0, none⟩ = some (.int .i64 l.by_.node) := hs.cell (p := ⟨w.heap.size + 1, 0, none⟩) trivial l0
          have m1 : wc.cell? ⟨w.heap.size + 1, 1, none⟩ = some (.int .i64 l.by_.life) := hs.cell (p := ⟨w.heap.size + 1, 1, none⟩) trivial l1
          have m2 : wc.cell? ⟨w.heap.size + 1, 2, none⟩ = some (.int .i64 l.by_.seq) := hs.cell (p := ⟨w.heap.size + 1, 2, none⟩) trivial l2
          have m3 : wc.cell? ⟨w.heap.size + 1, 3, none⟩ = some (.int .i64 l.by_.attempt) := hs.cell (p := ⟨w.heap.size + 1, 3, none⟩) trivial l3
          have m4 : wc.cell? ⟨w.heap.size + 1, 4, none⟩ = some (.int .i64 l.home) := hs.cell (p := ⟨w.heap.size + 1, 4, none⟩) trivial l4
          have m5 : wc.cell? ⟨w.heap.size + 1, 5, none⟩ = some (.int .i64 l.at_.wall) := hs.cell (p := ⟨w.heap.size + 1, 5, none⟩) trivial l5
          have m6 : wc.cell? ⟨w.heap.size + 1, 6, none⟩ = some (.int .i64 l.at_.tie) := hs.cell (p := ⟨w.heap.size + 1, 6, none⟩) trivial l6
          have m7 : wc.cell? ⟨w.heap.size + 1, 7, none⟩ = some (.bool l.drop) := hs.cell (p := ⟨w.heap.size + 1, 7, none⟩) trivial l7
          have m8 : wc.cell? ⟨w.heap.size + 1, 8, none⟩ = some (.string (str l.data)) := hs.cell (p := ⟨w.heap.size + 1, 8, none⟩) trivial l8
          clear hd hz hf hw
          simp only [Region.wanted, if_true, Oper.wp, execOp, resolve, List.map_toArray, List.map_cons, List.map_nil, Option.map_some, Option.map_none, e0]
          go_simp
          exact hK _ _ rfl (Same.refl _ _)
        · intro ac wc hs hd hz hf hw K hK
          have e0 : ac.eval (.tmp 56) = (.slice Al nl cl) := hw 0 rfl
          have e1 : ac.eval (.tmp 57) = (wrV x) := hw 1 rfl
          have e2 : ac.eval (.tmp 58) = (lckV l) := hw 2 rfl
          clear hd hz hf hw
          simp only [Region.wanted, if_true, Oper.wp, execOp, resolve, List.map_toArray, List.map_cons, List.map_nil, Option.map_some, Option.map_none, e0, e1, e2]
          go_simp
          refine (mvlock_any (.slice Al nl cl) cs x l _ wc (Hown3.out.keepAll hs).reads (Hf.out.len (by omega)) (Hf.out.vers (by omega)) Hf.out.good.sorted).mono ?_
          rintro e wd ⟨u, rfl, hown, hS⟩
          exact hK _ _ (hown.lower (Nat.le_trans hB3 hs.size)) hS
        · intro ac wc hs hd hz hf hw K hK
          have e0 : ac.eval (.tmp 7) = (.pointer (some ⟨w.heap.size + 1, 0, none⟩)) := hf 7 rfl
          clear hd hz hf hw
          simp only [Region.wanted, if_true, Oper.wp, execOp, resolve, List.map_toArray, List.map_cons, List.map_nil, Option.map_some, Option.map_none, e0]
          go_simp
          exact hK _ _ rfl (Same.refl _ _)
        · intro ac wc hs hd hz hf hw K hK
          have e0 : ac.eval (.tmp 60) = (.pointer (some ⟨w.heap.size + 1, 0, none⟩)) := hw 4 rfl
          have m0 : wc.cell? ⟨w.heap.size + 1, 0, none⟩ = some (.int .i64 l.by_.node) := hs.cell (p := ⟨w.heap.size + 1, 0, none⟩) trivial l0
          have m1 : wc.cell? ⟨w.heap.size + 1, 1, none⟩ = some (.int .i64 l.by_.life) := hs.cell (p := ⟨w.heap.size + 1, 1, none⟩) trivial l1
          have m2 : wc.cell? ⟨w.heap.size + 1, 2, none⟩ = some (.int .i64 l.by_.seq) := hs.cell (p := ⟨w.heap.size + 1, 2, none⟩) trivial l2
          have m3 : wc.cell? ⟨w.heap.size + 1, 3, none⟩ = some (.int .i64 l.by_.attempt) := hs.cell (p := ⟨w.heap.size + 1, 3, none⟩) trivial l3
          clear hd hz hf hw
          simp only [Region.wanted, if_true, Oper.wp, execOp, resolve, List.map_toArray, List.map_cons, List.map_nil, Option.map_some, Option.map_none, e0]
          go_simp
          exact hK _ _ rfl (Same.refl _ _)
        · intro ac wc hs hd hz hf hw K hK
          have e0 : ac.eval (.tmp 3) = (.bool yes) := hf 3 rfl
          clear hd hz hf hw
          simp only [Region.wanted, if_true, Oper.wp, execOp, resolve, List.map_toArray, List.map_cons, List.map_nil, Option.map_some, Option.map_none, e0]
          go_simp
          exact hK _ _ rfl (Same.refl _ _)
        · intro ac wc hs hd hz hf hw K hK
          have p0 : (⟨fun v w => OwnC w B v (lockF cs x.key (lockW x l)), fun _ _ _ h k => h.keepAll k⟩ : SP).p (ac.eval (.tmp 59)) wc := hw 3 rfl
          obtain ⟨u0, e0⟩ : ∃ u, ac.eval (.tmp 59) = u := ⟨_, rfl⟩
          rw [e0] at p0
          have e1 : ac.eval (.tmp 61) = (tryV l.by_) := hw 5 rfl
          have e2 : ac.eval (.tmp 62) = (.bool yes) := hw 6 rfl
          clear hd hz hf hw
          simp only [Region.wanted, if_true, Oper.wp, execOp, resolve, List.map_toArray, List.map_cons, List.map_nil, Option.map_some, Option.map_none, e0, e1, e2]
          go_simp
          refine (mvsettle_any u0 (lockF cs x.key (lockW x l)) l.by_ yes _ wc (OwnC.reads p0) (Hf4.out.len (by omega)) (Hf4.out.vers (by omega)) Hf4.out.sort).mono ?_
          rintro e wd ⟨u, rfl, hown, hS⟩
          exact hK _ _ (hown.lower (Nat.le_trans hB3 hs.size)) hS
        · intro ac wc hs hd hz hf hw K hK
          have p0 : (⟨fun v w => OwnC w B v (setlF (lockF cs x.key (lockW x l)) l.by_ yes), fun _ _ _ h k => h.keepAll k⟩ : SP).p (ac.eval (.tmp 63)) wc := hw 7 rfl
          obtain ⟨u0, e0⟩ : ∃ u, ac.eval (.tmp 63) = u := ⟨_, rfl⟩
          rw [e0] at p0
          clear hd hz hf hw
          simp only [Region.wanted, if_true, Oper.wp, execOp, resolve, List.map_toArray, List.map_cons, List.map_nil, Option.map_some, Option.map_none, e0]
          go_simp
          exact hK _ _ p0 (Same.refl _ _)
      · intro vs wR hvl hvp hsR
        rcases vs with _ | ⟨z0, _ | ⟨z1, _ | ⟨z2, _ | ⟨z3, _ | ⟨z4, _ | ⟨z5, _ | ⟨z6, _ | ⟨z7, _ | ⟨z8, _ | ⟨zz, zr⟩⟩⟩⟩⟩⟩⟩⟩⟩⟩
        rotate_right 1
        · simp at hvl
        · simp at hvl
        · simp at hvl
        · simp at hvl
        · simp at hvl
        · simp at hvl
        · simp at hvl
        · simp at hvl
        · simp at hvl
        · simp at hvl
        · obtain rfl : z0 = (.slice Al nl cl) := hvp 0 (by simp) (by simp)
          obtain rfl : z1 = (wrV x) := hvp 1 (by simp) (by simp)
          obtain rfl : z2 = (lckV l) := hvp 2 (by simp) (by simp)
          have hx1 : (⟨fun v w => OwnC w B v (lockF cs x.key (lockW x l)), fun _ _ _ h k => h.keepAll k⟩ : SP).p z3 wR := hvp 3 (by simp) (by simp)
          obtain rfl : z4 = (.pointer (some ⟨w.heap.size + 1, 0, none⟩)) := hvp 4 (by simp) (by simp)
          obtain rfl : z5 = (tryV l.by_) := hvp 5 (by simp) (by simp)
          obtain rfl : z6 = (.bool yes) := hvp 6 (by simp) (by simp)
          have hx2 : (⟨fun v w => OwnC w B v (setlF (lockF cs x.key (lockW x l)) l.by_ yes), fun _ _ _ h k => h.keepAll k⟩ : SP).p z7 wR := hvp 7 (by simp) (by simp)
          have hx3 : (⟨fun v w => OwnC w B v (setlF (lockF cs x.key (lockW x l)) l.by_ yes), fun _ _ _ h k => h.keepAll k⟩ : SP).p z8 wR := hvp 8 (by simp) (by simp)
          clear hvl hvp
          simp only [putAll, Act.put, List.setIfInBounds_toArray, List.set_cons_succ, List.set_cons_zero]
          have HS5 := Lib.hid (HS3.out.trans hsR)
          have Hc5 := Lib.hid (Hown3.out.keepAll hsR)
          have He5 := Lib.hid hx3
          obtain ⟨v5, hv5⟩ : ∃ v5, v5 = z8 := ⟨_, rfl⟩
          subst hv5
          clear hsR hx1 hx2 hx3
          clear k0 k1 k2 l0 l1 l2 l3 l4 l5 l6 l7 l8 s0 s1 zs
          have rw_ := RW.out.keep HS5.out trivial
          have rl_ := RL.out.keep HS5.out trivial
          have rs_ := RS.out.keep HS5.out trivial
          have k0 : wR.cell? ⟨w.heap.size, 0, none⟩ = some (.string (str x.key)) := rw_.cell 0
          have k1 : wR.cell? ⟨w.heap.size, 1, none⟩ = some (.bool x.drop) := rw_.cell 1
          have k2 : wR.cell? ⟨w.heap.size, 2, none⟩ = some (.string (str x.data)) := rw_.cell 2
          have l0 : wR.cell? ⟨w.heap.size + 1, 0, none⟩ = some (.int .i64 l.by_.node) := rl_.cell 0
          have l1 : wR.cell? ⟨w.heap.size + 1, 1, none⟩ = some (.int .i64 l.by_.life) := rl_.cell 1
          have l2 : wR.cell? ⟨w.heap.size + 1, 2, none⟩ = some (.int .i64 l.by_.seq) := rl_.cell 2
          have l3 : wR.cell? ⟨w.heap.size + 1, 3, none⟩ = some (.int .i64 l.by_.attempt) := rl_.cell 3
          have l4 : wR.cell? ⟨w.heap.size + 1, 4, none⟩ = some (.int .i64 l.home) := rl_.cell 4
          have l5 : wR.cell? ⟨w.heap.size + 1, 5, none⟩ = some (.int .i64 l.at_.wall) := rl_.cell 5
          have l6 : wR.cell? ⟨w.heap.size + 1, 6, none⟩ = some (.int .i64 l.at_.tie) := rl_.cell 6
          have l7 : wR.cell? ⟨w.heap.size + 1, 7, none⟩ = some (.bool l.drop) := rl_.cell 7
          have l8 : wR.cell? ⟨w.heap.size + 1, 8, none⟩ = some (.string (str l.data)) := rl_.cell 8
          have s0 : wR.cell? ⟨w.heap.size + 2, 0, none⟩ = some (.int .i64 a.wall) := rs_.cell 0
          have s1 : wR.cell? ⟨w.heap.size + 2, 1, none⟩ = some (.int .i64 a.tie) := rs_.cell 1
          have zs := rs_.lt
          clear rw_ rl_ rs_
          go_wp2_with (go_at_call 27; refine stopAt ?_)
          unfold Hid
          refine (mvget_any (.slice Al nl cl) cs x.key a _ wR Hc5.out.reads Hf.out.good.sorted (by have := Hf.out.len (by omega); omega)).mono ?_
          rintro e w6 ⟨rfl, hS6⟩
          have HS6 := Lib.hid (HS5.out.trans hS6)
          have He6 := Lib.hid (He5.out.keepAll hS6)
          clear hS6
          clear k0 k1 k2 l0 l1 l2 l3 l4 l5 l6 l7 l8 s0 s1 zs
          have rw_ := RW.out.keep HS6.out trivial
          have rl_ := RL.out.keep HS6.out trivial
          have rs_ := RS.out.keep HS6.out trivial
          have k0 : w6.cell? ⟨w.heap.size, 0, none⟩ = some (.string (str x.key)) := rw_.cell 0
          have k1 : w6.cell? ⟨w.heap.size, 1, none⟩ = some (.bool x.drop) := rw_.cell 1
          have k2 : w6.cell? ⟨w.heap.size, 2, none⟩ = some (.string (str x.data)) := rw_.cell 2
          have l0 : w6.cell? ⟨w.heap.size + 1, 0, none⟩ = some (.int .i64 l.by_.node) := rl_.cell 0
          have l1 : w6.cell? ⟨w.heap.size + 1, 1, none⟩ = some (.int .i64 l.by_.life) := rl_.cell 1
          have l2 : w6.cell? ⟨w.heap.size + 1, 2, none⟩ = some (.int .i64 l.by_.seq) := rl_.cell 2
          have l3 : w6.cell? ⟨w.heap.size + 1, 3, none⟩ = some (.int .i64 l.by_.attempt) := rl_.cell 3
          have l4 : w6.cell? ⟨w.heap.size + 1, 4, none⟩ = some (.int .i64 l.home) := rl_.cell 4
          have l5 : w6.cell? ⟨w.heap.size + 1, 5, none⟩ = some (.int .i64 l.at_.wall) := rl_.cell 5
          have l6 : w6.cell? ⟨w.heap.size + 1, 6, none⟩ = some (.int .i64 l.at_.tie) := rl_.cell 6
          have l7 : w6.cell? ⟨w.heap.size + 1, 7, none⟩ = some (.bool l.drop) := rl_.cell 7
          have l8 : w6.cell? ⟨w.heap.size + 1, 8, none⟩ = some (.string (str l.data)) := rl_.cell 8
          have s0 : w6.cell? ⟨w.heap.size + 2, 0, none⟩ = some (.int .i64 a.wall) := rs_.cell 0
          have s1 : w6.cell? ⟨w.heap.size + 2, 1, none⟩ = some (.int .i64 a.tie) := rs_.cell 1
          have zs := rs_.lt
          clear rw_ rl_ rs_
          go_wp2_with (go_at_call 27; refine stopAt ?_)
          unfold Hid
          have gg := mvget_any v5 (setlF (lockF cs x.key (lockW x l)) l.by_ yes) x.key a _ w6 He6.out.reads Hf5.out.good.sorted (by have := Hf5.out.len (by omega); omega)
          by_cases hh : lessB a l.at_ = true ∨ yes = false
          · have e1 := P1.out hh
            rw [e1] at gg
            refine gg.mono ?_
            rintro e w7 ⟨rfl, hS7⟩
            have HS7 := Lib.hid (HS6.out.trans hS7)
            clear hS7 gg e1
            obtain ⟨⟨g1, g2⟩, hg⟩ : ∃ r, r = getF cs x.key a := ⟨_, rfl⟩
            rw [← hg]
            clear hg
            clear k0 k1 k2 l0 l1 l2 l3 l4 l5 l6 l7 l8 s0 s1 zs
            have rw_ := RW.out.keep HS7.out trivial
            have rl_ := RL.out.keep HS7.out trivial
            have rs_ := RS.out.keep HS7.out trivial
            have k0 : w7.cell? ⟨w.heap.size, 0, none⟩ = some (.string (str x.key)) := rw_.cell 0
            have k1 : w7.cell? ⟨w.heap.size, 1, none⟩ = some (.bool x.drop) := rw_.cell 1
            have k2 : w7.cell? ⟨w.heap.size, 2, none⟩ = some (.string (str x.data)) := rw_.cell 2
            have l0 : w7.cell? ⟨w.heap.size + 1, 0, none⟩ = some (.int .i64 l.by_.node) := rl_.cell 0
            have l1 : w7.cell? ⟨w.heap.size + 1, 1, none⟩ = some (.int .i64 l.by_.life) := rl_.cell 1
            have l2 : w7.cell? ⟨w.heap.size + 1, 2, none⟩ = some (.int .i64 l.by_.seq) := rl_.cell 2
            have l3 : w7.cell? ⟨w.heap.size + 1, 3, none⟩ = some (.int .i64 l.by_.attempt) := rl_.cell 3
            have l4 : w7.cell? ⟨w.heap.size + 1, 4, none⟩ = some (.int .i64 l.home) := rl_.cell 4
            have l5 : w7.cell? ⟨w.heap.size + 1, 5, none⟩ = some (.int .i64 l.at_.wall) := rl_.cell 5
            have l6 : w7.cell? ⟨w.heap.size + 1, 6, none⟩ = some (.int .i64 l.at_.tie) := rl_.cell 6
            have l7 : w7.cell? ⟨w.heap.size + 1, 7, none⟩ = some (.bool l.drop) := rl_.cell 7
            have l8 : w7.cell? ⟨w.heap.size + 1, 8, none⟩ = some (.string (str l.data)) := rl_.cell 8
            have s0 : w7.cell? ⟨w.heap.size + 2, 0, none⟩ = some (.int .i64 a.wall) := rs_.cell 0
            have s1 : w7.cell? ⟨w.heap.size + 2, 1, none⟩ = some (.int .i64 a.tie) := rs_.cell 1
            have zs := rs_.lt
            clear rw_ rl_ rs_
            go_wp2_with (go_at_call 28; refine stopAt ?_)
            unfold Hid
            refine (refless_any a l.at_ w7).mono ?_
            rintro e w8 ⟨rfl, hS8⟩
            have HS8 := Lib.hid (HS7.out.trans hS8)
            clear hS8
            clear k0 k1 k2 l0 l1 l2 l3 l4 l5 l6 l7 l8 s0 s1 zs
            obtain ⟨b1, hb1⟩ : ∃ b1, b1 = lessB a l.at_ := ⟨_, rfl⟩
            rw [← hb1] at hh ⊢
            clear hb1
            cases b1
            · obtain rfl : yes = false := hh.resolve_left (fun h => by cases h)
              clear hh
              go_wp2
              go_ret
              exact ⟨rfl, HS1.out.trans HS8.out⟩
            · clear hh
              go_wp2
              go_ret
              exact ⟨rfl, HS1.out.trans HS8.out⟩
          · refine gg.mono ?_
            rintro e w7 ⟨rfl, hS7⟩
            have HS7 := Lib.hid (HS6.out.trans hS7)
            have He7 := Lib.hid (He6.out.keepAll hS7)
            clear hS7 gg
            obtain ⟨h1, h2⟩ : lessB a l.at_ = false ∧ yes = true := by
              constructor
              · cases h : lessB a l.at_
                · rfl
                · exact (hh (Or.inl h)).elim
              · cases h : yes
                · exact (hh (Or.inr h)).elim
                · rfl
            clear hh
            obtain rfl := h2
            have e2 := P2.out rfl
            have E2 := Lib.hid e2
            clear e2
            clear k0 k1 k2 l0 l1 l2 l3 l4 l5 l6 l7 l8 s0 s1 zs
            have rw_ := RW.out.keep HS7.out trivial
            have rl_ := RL.out.keep HS7.out trivial
            have rs_ := RS.out.keep HS7.out trivial
            have k0 : w7.cell? ⟨w.heap.size, 0, none⟩ = some (.string (str x.key)) := rw_.cell 0
            have k1 : w7.cell? ⟨w.heap.size, 1, none⟩ = some (.bool x.drop) := rw_.cell 1
            have k2 : w7.cell? ⟨w.heap.size, 2, none⟩ = some (.string (str x.data)) := rw_.cell 2
            have l0 : w7.cell? ⟨w.heap.size + 1, 0, none⟩ = some (.int .i64 l.by_.node) := rl_.cell 0
            have l1 : w7.cell? ⟨w.heap.size + 1, 1, none⟩ = some (.int .i64 l.by_.life) := rl_.cell 1
            have l2 : w7.cell? ⟨w.heap.size + 1, 2, none⟩ = some (.int .i64 l.by_.seq) := rl_.cell 2
            have l3 : w7.cell? ⟨w.heap.size + 1, 3, none⟩ = some (.int .i64 l.by_.attempt) := rl_.cell 3
            have l4 : w7.cell? ⟨w.heap.size + 1, 4, none⟩ = some (.int .i64 l.home) := rl_.cell 4
            have l5 : w7.cell? ⟨w.heap.size + 1, 5, none⟩ = some (.int .i64 l.at_.wall) := rl_.cell 5
            have l6 : w7.cell? ⟨w.heap.size + 1, 6, none⟩ = some (.int .i64 l.at_.tie) := rl_.cell 6
            have l7 : w7.cell? ⟨w.heap.size + 1, 7, none⟩ = some (.bool l.drop) := rl_.cell 7
            have l8 : w7.cell? ⟨w.heap.size + 1, 8, none⟩ = some (.string (str l.data)) := rl_.cell 8
            have s0 : w7.cell? ⟨w.heap.size + 2, 0, none⟩ = some (.int .i64 a.wall) := rs_.cell 0
            have s1 : w7.cell? ⟨w.heap.size + 2, 1, none⟩ = some (.int .i64 a.tie) := rs_.cell 1
            have zs := rs_.lt
            clear rw_ rl_ rs_
            go_wp2_with (go_at_call 28; refine stopAt ?_)
            unfold Hid
            refine (refless_any a l.at_ w7).mono ?_
            rintro e w8 ⟨rfl, hS8⟩
            rw [h1]
            clear h1
            have HS8 := Lib.hid (HS7.out.trans hS8)
            have He8 := Lib.hid (He7.out.keepAll hS8)
            clear hS8
            clear k0 k1 k2 l0 l1 l2 l3 l4 l5 l6 l7 l8 s0 s1 zs
            have rw_ := RW.out.keep HS8.out trivial
            have rl_ := RL.out.keep HS8.out trivial
            have rs_ := RS.out.keep HS8.out trivial
            have k0 : w8.cell? ⟨w.heap.size, 0, none⟩ = some (.string (str x.key)) := rw_.cell 0
            have k1 : w8.cell? ⟨w.heap.size, 1, none⟩ = some (.bool x.drop) := rw_.cell 1
            have k2 : w8.cell? ⟨w.heap.size, 2, none⟩ = some (.string (str x.data)) := rw_.cell 2
            have l0 : w8.cell? ⟨w.heap.size + 1, 0, none⟩ = some (.int .i64 l.by_.node) := rl_.cell 0
            have l1 : w8.cell? ⟨w.heap.size + 1, 1, none⟩ = some (.int .i64 l.by_.life) := rl_.cell 1
            have l2 : w8.cell? ⟨w.heap.size + 1, 2, none⟩ = some (.int .i64 l.by_.seq) := rl_.cell 2
            have l3 : w8.cell? ⟨w.heap.size + 1, 3, none⟩ = some (.int .i64 l.by_.attempt) := rl_.cell 3
            have l4 : w8.cell? ⟨w.heap.size + 1, 4, none⟩ = some (.int .i64 l.home) := rl_.cell 4
            have l5 : w8.cell? ⟨w.heap.size + 1, 5, none⟩ = some (.int .i64 l.at_.wall) := rl_.cell 5
            have l6 : w8.cell? ⟨w.heap.size + 1, 6, none⟩ = some (.int .i64 l.at_.tie) := rl_.cell 6
            have l7 : w8.cell? ⟨w.heap.size + 1, 7, none⟩ = some (.bool l.drop) := rl_.cell 7
            have l8 : w8.cell? ⟨w.heap.size + 1, 8, none⟩ = some (.string (str l.data)) := rl_.cell 8
            have s0 : w8.cell? ⟨w.heap.size + 2, 0, none⟩ = some (.int .i64 a.wall) := rs_.cell 0
            have s1 : w8.cell? ⟨w.heap.size + 2, 1, none⟩ = some (.int .i64 a.tie) := rs_.cell 1
            have zs := rs_.lt
            clear rw_ rl_ rs_
            go_wp2_with (go_at_call 27; refine stopAt ?_)
            unfold Hid
            have gg := mvget_any v5 (setlF (lockF cs x.key (lockW x l)) l.by_ true) x.key l.at_ _ w8 He8.out.reads Hf5.out.good.sorted (by have := Hf5.out.len (by omega); omega)
            rw [E2.out] at gg
            refine gg.mono ?_
            rintro e w9 ⟨rfl, hS9⟩
            have HS9 := Lib.hid (HS8.out.trans hS9)
            clear hS9 gg
            clear k0 k1 k2 l0 l1 l2 l3 l4 l5 l6 l7 l8 s0 s1 zs
            have rw_ := RW.out.keep HS9.out trivial
            have rl_ := RL.out.keep HS9.out trivial
            have rs_ := RS.out.keep HS9.out trivial
            have k0 : w9.cell? ⟨w.heap.size, 0, none⟩ = some (.string (str x.key)) := rw_.cell 0
            have k1 : w9.cell? ⟨w.heap.size, 1, none⟩ = some (.bool x.drop) := rw_.cell 1
            have k2 : w9.cell? ⟨w.heap.size, 2, none⟩ = some (.string (str x.data)) := rw_.cell 2
            have l0 : w9.cell? ⟨w.heap.size + 1, 0, none⟩ = some (.int .i64 l.by_.node) := rl_.cell 0
            have l1 : w9.cell? ⟨w.heap.size + 1, 1, none⟩ = some (.int .i64 l.by_.life) := rl_.cell 1
            have l2 : w9.cell? ⟨w.heap.size + 1, 2, none⟩ = some (.int .i64 l.by_.seq) := rl_.cell 2
            have l3 : w9.cell? ⟨w.heap.size + 1, 3, none⟩ = some (.int .i64 l.by_.attempt) := rl_.cell 3
            have l4 : w9.cell? ⟨w.heap.size + 1, 4, none⟩ = some (.int .i64 l.home) := rl_.cell 4
            have l5 : w9.cell? ⟨w.heap.size + 1, 5, none⟩ = some (.int .i64 l.at_.wall) := rl_.cell 5
            have l6 : w9.cell? ⟨w.heap.size + 1, 6, none⟩ = some (.int .i64 l.at_.tie) := rl_.cell 6
            have l7 : w9.cell? ⟨w.heap.size + 1, 7, none⟩ = some (.bool l.drop) := rl_.cell 7
            have l8 : w9.cell? ⟨w.heap.size + 1, 8, none⟩ = some (.string (str l.data)) := rl_.cell 8
            have s0 : w9.cell? ⟨w.heap.size + 2, 0, none⟩ = some (.int .i64 a.wall) := rs_.cell 0
            have s1 : w9.cell? ⟨w.heap.size + 2, 1, none⟩ = some (.int .i64 a.tie) := rs_.cell 1
            have zs := rs_.lt
            clear rw_ rl_ rs_
            clear E2 P1 P2
            obtain ⟨dr, hdr⟩ : ∃ dr, dr = x.drop := ⟨_, rfl⟩
            rw [← hdr] at k1 ⊢
            clear hdr
            cases dr
            · simp only [Bool.false_eq_true, if_false]
              go_wp2
              go_ret
              exact ⟨rfl, HS1.out.trans HS9.out⟩
            · simp only [if_true]
              go_wp2
              go_ret
              exact ⟨rfl, HS1.out.trans HS9.out⟩
end Go.Proofs.Ytoldelocfmpccaa
