/-
  MvccTrims: for all operations, a trim turns nothing that is told at its stamp or later: the walk.
-/
import Derived.Test.YtoldelocfmpccaaMvPRW
set_option linter.unusedSimpArgs false
set_option linter.unusedVariables false
namespace Go.Proofs.Ytoldelocfmpccaa
open Go.RowKit

set_option maxRecDepth 100000 in
set_option maxHeartbeats 4000000 in
theorem trims_walk (v : Value) (ops : List OpT) (b a : St) (lo hi : List UInt8) (w : World) (hv : OpsR w (fun q => q < w.heap.size) v ops) (hk1 : lo.length ≤ maxLen) (hk2 : hi.length ≤ maxLen) :
    Calls Try.prog 7 #[v, stV b, stV a, .agg #[.string (str lo), .string (str hi)]] w fun e w' => e = .returned (.bool true) ∧ Same (fun _ => True) w w' := by
  have hv' := hv
  obtain ⟨A, c, rfl, hc, hm, -⟩ := hv'
  have Hops := Lib.hid hv
  have r0 := ((Row.new w 28 (stCs b)).keep ((Same.refl (fun _ => True) _).alloc (.cells (stCs a).toArray 28)) trivial).keep ((Same.refl (fun _ => True) _).alloc (.cells ([.string (str lo), .string (str hi)]).toArray 53)) trivial
  have r1 := (Row.new (w.alloc (.cells (stCs b).toArray 28)) 28 (stCs a)).keep ((Same.refl (fun _ => True) _).alloc (.cells ([.string (str lo), .string (str hi)]).toArray 53)) trivial
  have r2 := Row.new ((w.alloc (.cells (stCs b).toArray 28)).alloc (.cells (stCs a).toArray 28)) 53 [.string (str lo), .string (str hi)]
  have hS0 := (((Same.refl (fun _ => True) w).alloc (.cells (stCs b).toArray 28)).alloc (.cells (stCs a).toArray 28)).alloc (.cells ([.string (str lo), .string (str hi)]).toArray 53)
  rw [World.size_alloc] at r1
  rw [World.size_alloc, World.size_alloc] at r2
  have R0 := Lib.hid r0
  have R1 := Lib.hid r1
  have R2 := Lib.hid r2
  have HS0 := Lib.hid hS0
  unfold maxLen at hm hk1 hk2
  clear hv r0 r1 r2 hS0
  go_enter Try.func7, Try.ntmps7
  go_wp2_with (go_at_call 21; refine stopAt ?_)
  unfold Hid
  refine (begun_any _).mono ?_
  rintro e w1 ⟨rfl, hS1⟩
  have HS1 := Lib.hid (HS0.out.trans hS1)
  have RBl := Lib.hid (R0.out.keep hS1 trivial)
  have RAt := Lib.hid (R1.out.keep hS1 trivial)
  have RSp := Lib.hid (R2.out.keep hS1 trivial)
  clear hS1 R0 R1 R2 HS0
  have z1 := RSp.out.lt
  obtain ⟨B, hBe⟩ : ∃ B, B = w1.heap.size := ⟨_, rfl⟩
  have HBe := Lib.hid hBe
  clear hBe
  have rb_ := RBl.out.keep (Same.refl (fun _ => True) w1) trivial
  have rs_ := RSp.out.keep (Same.refl (fun _ => True) w1) trivial
  have k0 : w1.cell? ⟨w.heap.size, 0, none⟩ = some (.int .i64 b.wall) := rb_.cell 0
  have k1 : w1.cell? ⟨w.heap.size, 1, none⟩ = some (.int .i64 b.tie) := rb_.cell 1
  have s0 : w1.cell? ⟨w.heap.size + 2, 0, none⟩ = some (.string (str lo)) := rs_.cell 0
  have s1 : w1.cell? ⟨w.heap.size + 2, 1, none⟩ = some (.string (str hi)) := rs_.cell 1
  have zs := rs_.lt
  clear rb_ rs_
  go_wp2_with (go_at_call 22; refine stopAt ?_)
  unfold Hid
  refine (light_any (.slice A ops.length c) ops 60 _ w1 (SlOf.keep Hops.out (HS1.out.mono fun _ _ _ => trivial)) (by omega)).mono ?_
  rintro e w2 ⟨bl, rfl, hbl, rfl⟩
  cases bl
  · clear hbl
    go_wp2
    go_ret
    exact ⟨rfl, HS1.out⟩
  have hn := hbl rfl
  clear hbl
  have z2 : (str lo).size = lo.length := str_size _
  have z3 : (str hi).size = hi.length := str_size _
  go_wp2
  all_goals try (go_ret; exact ⟨rfl, HS1.out⟩)
  clear k0 k1 s0 s1 zs
  go_loopw [9, 10] (fun v i wr => ∃ k : Nat, i = .int .i64 k ∧ k ≤ ops.length ∧ OwnC wr B v (runF (ops.take k)) ∧ Same (fun _ => True) w1 wr) (fun _ i _ => ops.length - (intOf i).toNat)
  case atStart => exact ⟨0, rfl, Nat.zero_le _, OwnC.nil _ _, Same.refl _ _⟩
  case round =>
    obtain ⟨k, rfl, hk, hown, hS⟩ := hrel
    have hf := run_fine ops k hk
    obtain ⟨Al, nl, cl, rfl, hl1, hl2⟩ := hown.form3
    have HS := Lib.hid hS
    have Hown := Lib.hid hown
    unfold maxLen at hl2
    by_cases hlt : k < ops.length
    · obtain ⟨ad, rfl, -, -, c0, hcs⟩ := ops_at (SlOf.keep Hops.out ((HS1.out.trans hS).mono fun _ _ _ => trivial)) hlt
      have x1 : (0 : Int) ≤ (k : Int) := by omega
      have x2 : (k : Int) < (ops.length : Int) := by omega
      have c1 := hcs 1 (by omega) (by omega)
      have c2 := hcs 2 (by omega) (by omega)
      have c3 := hcs 3 (by omega) (by omega)
      have c4 := hcs 4 (by omega) (by omega)
      have c5 := hcs 5 (by omega) (by omega)
      have c6 := hcs 6 (by omega) (by omega)
      have c7 := hcs 7 (by omega) (by omega)
      have c8 := hcs 8 (by omega) (by omega)
      have c9 := hcs 9 (by omega) (by omega)
      have c10 := hcs 10 (by omega) (by omega)
      have c11 := hcs 11 (by omega) (by omega)
      have c12 := hcs 12 (by omega) (by omega)
      have c13 := hcs 13 (by omega) (by omega)
      simp only [opCs, List.getElem?_cons_zero, List.getElem?_cons_succ] at c1 c2 c3 c4 c5 c6 c7 c8 c9 c10 c11 c12 c13
      have hst := runF_step hlt
      have gd := do_any (.slice Al nl cl) (runF (ops.take k)) ops[k] _ wr hown.reads hf.good (hf.len (by omega)) (hf.vers (by omega))
      rw [← hst] at gd
      have Hst := Lib.hid hst
      have hB := hS.size
      clear hcs hown hS hf hst
      generalize ops[k] = o at *
      go_wp2_with (go_at_call 23; refine stopAt ?_)
      unfold Hid
      refine gd.mono ?_
      rintro e w5 ⟨v1, v2, rfl, hown5, -, hS5⟩
      have Hown5 := Lib.hid (hown5.lower (B' := B) (by rw [HBe.out]; exact hB))
      have HS5 := Lib.hid (HS.out.trans hS5)
      clear hown5 hS5 gd c0 c1 c2 c3 c4 c5 c6 c7 c8 c9 c10 c11 c12 c13
      go_wp2
      go_roundw
      case rel => exact ⟨k + 1, by go_num, by omega, Hown5.out, HS5.out⟩
      case measure => simp [intOf]; omega
    · obtain rfl : k = ops.length := by omega
      rw [List.take_length] at Hown hf
      obtain ⟨cs, hcs⟩ : ∃ cs, cs = runF ops := ⟨_, rfl⟩
      rw [← hcs] at Hown hf
      have Hf := Lib.hid hf
      clear hown hf hcs
      have rb_ := RBl.out.keep HS.out trivial
      have rs_ := RSp.out.keep HS.out trivial
      have k0 : wr.cell? ⟨w.heap.size, 0, none⟩ = some (.int .i64 b.wall) := rb_.cell 0
      have k1 : wr.cell? ⟨w.heap.size, 1, none⟩ = some (.int .i64 b.tie) := rb_.cell 1
      have s0 : wr.cell? ⟨w.heap.size + 2, 0, none⟩ = some (.string (str lo)) := rs_.cell 0
      have s1 : wr.cell? ⟨w.heap.size + 2, 1, none⟩ = some (.string (str hi)) := rs_.cell 1
      have zs := rs_.lt
      clear rb_ rs_
      have ra_ := RAt.out.keep HS.out trivial
      have a0 : wr.cell? ⟨w.heap.size + 1, 0, none⟩ = some (.int .i64 a.wall) := ra_.cell 0
      have a1 : wr.cell? ⟨w.heap.size + 1, 1, none⟩ = some (.int .i64 a.tie) := ra_.cell 1
      clear ra_
      clear hS
      go_wp2_with (go_at_call 32; refine stopAt ?_)
      unfold Hid
      refine (mvtrim_any (.slice Al nl cl) cs b _ wr Hown.out.reads (Hf.out.len (by omega)) (Hf.out.vers (by omega))).mono ?_
      rintro e w3 ⟨v3, rfl, hown3, hS3⟩
      have HS3 := Lib.hid (HS.out.trans hS3)
      have Hf3 := Lib.hid (Hf.out.trim b)
      have hB3 : B ≤ wr.heap.size := by rw [HBe.out]; exact HS.out.size
      have Hd3 := Lib.hid (hown3.lower hB3)
      have Hc3 := Lib.hid (Hown.out.keepAll hS3)
      clear hS3 hown3
      clear k0 k1 s0 s1 zs a0 a1
      have rb_ := RBl.out.keep HS3.out trivial
      have rs_ := RSp.out.keep HS3.out trivial
      have k0 : w3.cell? ⟨w.heap.size, 0, none⟩ = some (.int .i64 b.wall) := rb_.cell 0
      have k1 : w3.cell? ⟨w.heap.size, 1, none⟩ = some (.int .i64 b.tie) := rb_.cell 1
      have s0 : w3.cell? ⟨w.heap.size + 2, 0, none⟩ = some (.string (str lo)) := rs_.cell 0
      have s1 : w3.cell? ⟨w.heap.size + 2, 1, none⟩ = some (.string (str hi)) := rs_.cell 1
      have zs := rs_.lt
      clear rb_ rs_
      have ra_ := RAt.out.keep HS3.out trivial
      have a0 : w3.cell? ⟨w.heap.size + 1, 0, none⟩ = some (.int .i64 a.wall) := ra_.cell 0
      have a1 : w3.cell? ⟨w.heap.size + 1, 1, none⟩ = some (.int .i64 a.tie) := ra_.cell 1
      clear ra_
      go_wp2_with (go_at_call 28; refine stopAt ?_)
      unfold Hid
      refine (refless_any a b w3).mono ?_
      rintro e w4 ⟨rfl, hS4⟩
      have HS4 := Lib.hid (HS3.out.trans hS4)
      have Hc4 := Lib.hid (Hc3.out.keepAll hS4)
      have Hd4 := Lib.hid (Hd3.out.keepAll hS4)
      clear hS4
      clear k0 k1 s0 s1 zs a0 a1
      have rb_ := RBl.out.keep HS4.out trivial
      have rs_ := RSp.out.keep HS4.out trivial
      have k0 : w4.cell? ⟨w.heap.size, 0, none⟩ = some (.int .i64 b.wall) := rb_.cell 0
      have k1 : w4.cell? ⟨w.heap.size, 1, none⟩ = some (.int .i64 b.tie) := rb_.cell 1
      have s0 : w4.cell? ⟨w.heap.size + 2, 0, none⟩ = some (.string (str lo)) := rs_.cell 0
      have s1 : w4.cell? ⟨w.heap.size + 2, 1, none⟩ = some (.string (str hi)) := rs_.cell 1
      have zs := rs_.lt
      clear rb_ rs_
      have ra_ := RAt.out.keep HS4.out trivial
      have a0 : w4.cell? ⟨w.heap.size + 1, 0, none⟩ = some (.int .i64 a.wall) := ra_.cell 0
      have a1 : w4.cell? ⟨w.heap.size + 1, 1, none⟩ = some (.int .i64 a.tie) := ra_.cell 1
      clear ra_
      cases hl : lessB a b
      · obtain ⟨wt, hwt⟩ : ∃ wt, wt = w4 := ⟨_, rfl⟩
        have Hab := Lib.hid hl
        have HSt := Lib.hid (HS1.out.trans HS4.out)
        have RB := Lib.hid (RBl.out.keep HS4.out trivial)
        have RA := Lib.hid (RAt.out.keep HS4.out trivial)
        have RS := Lib.hid (RSp.out.keep HS4.out trivial)
        have Hct := Lib.hid Hc4.out
        have Hdt := Lib.hid Hd4.out
        rw [← hwt] at HSt RB RA RS Hct Hdt ⊢
        clear hl hwt Hc4 Hd4 RBl RAt RSp HS4
        clear k0 k1 s0 s1 zs a0 a1
        have rb_ := RB.out.keep (Same.refl (fun _ => True) wt) trivial
        have ra_ := RA.out.keep (Same.refl (fun _ => True) wt) trivial
        have rs_ := RS.out.keep (Same.refl (fun _ => True) wt) trivial
        have k0 : wt.cell? ⟨w.heap.size, 0, none⟩ = some (.int .i64 b.wall) := rb_.cell 0
        have k1 : wt.cell? ⟨w.heap.size, 1, none⟩ = some (.int .i64 b.tie) := rb_.cell 1
        have a0 : wt.cell? ⟨w.heap.size + 1, 0, none⟩ = some (.int .i64 a.wall) := ra_.cell 0
        have a1 : wt.cell? ⟨w.heap.size + 1, 1, none⟩ = some (.int .i64 a.tie) := ra_.cell 1
        have s0 : wt.cell? ⟨w.heap.size + 2, 0, none⟩ = some (.string (str lo)) := rs_.cell 0
        have s1 : wt.cell? ⟨w.heap.size + 2, 1, none⟩ = some (.string (str hi)) := rs_.cell 1
        have zs := rs_.lt
        clear rb_ ra_ rs_
        have hsc := scan_trim Hab.out lo hi cs 1000
        obtain ⟨⟨L, E⟩, hLE⟩ : ∃ r, r = scanF cs lo hi a 1000 := ⟨_, rfl⟩
        rw [← hLE] at hsc
        have hLn : L.length ≤ 1000 := by
          have e := hLE
          unfold scanF at e
          split at e
          · injection e with e _; rw [e]; simp
          · rename_i h; injection e with e _; rw [e]; omega
        go_wp2_with (go_at_call 33; refine stopAt ?_)
        unfold Hid
        have gx := mvscan_any (.slice Al nl cl) cs lo hi a 1000 (fun k => k < wt.heap.size) wt (Hct.out.reads.mono fun k hk _ => hk) (fun k h => h) Hf.out.good.sorted (by have := Hf.out.len (by omega); omega)
        rw [← hLE] at gx
        refine gx.mono ?_
        rintro e w6 ⟨vx, rfl, hx, hS6⟩
        have Hsc := Lib.hid hsc
        have HLn := Lib.hid hLn
        clear hLE hsc hLn gx
        have HS6 := Lib.hid hS6
        have Hx6 := Lib.hid hx
        have Hd6 := Lib.hid (Hdt.out.keepAll hS6)
        clear hS6 hx
        clear k0 k1 s0 s1 zs a0 a1
        have rb_ := RB.out.keep HS6.out trivial
        have ra_ := RA.out.keep HS6.out trivial
        have rs_ := RS.out.keep HS6.out trivial
        have k0 : w6.cell? ⟨w.heap.size, 0, none⟩ = some (.int .i64 b.wall) := rb_.cell 0
        have k1 : w6.cell? ⟨w.heap.size, 1, none⟩ = some (.int .i64 b.tie) := rb_.cell 1
        have a0 : w6.cell? ⟨w.heap.size + 1, 0, none⟩ = some (.int .i64 a.wall) := ra_.cell 0
        have a1 : w6.cell? ⟨w.heap.size + 1, 1, none⟩ = some (.int .i64 a.tie) := ra_.cell 1
        have s0 : w6.cell? ⟨w.heap.size + 2, 0, none⟩ = some (.string (str lo)) := rs_.cell 0
        have s1 : w6.cell? ⟨w.heap.size + 2, 1, none⟩ = some (.string (str hi)) := rs_.cell 1
        have zs := rs_.lt
        clear rb_ ra_ rs_
        go_wp2_with (go_at_call 33; refine stopAt ?_)
        unfold Hid
        have gy := mvscan_any v3 (trimF cs b) lo hi a 1000 (fun k => k < w6.heap.size) w6 (Hd6.out.reads.mono fun k hk _ => hk) (fun k h => h) Hf3.out.good.sorted (by have := Hf3.out.len (by omega); omega)
        rw [Hsc.out] at gy
        refine gy.mono ?_
        rintro e w7 ⟨vy, rfl, hy, hS7⟩
        have HS7 := Lib.hid (HS6.out.trans hS7)
        have Hx7 := Lib.hid (Hx6.out.keepAll hS7)
        have Hd7 := Lib.hid (Hd6.out.keepAll hS7)
        have Hy7 := Lib.hid hy
        clear hS7 hy gy
        obtain ⟨Ax, cx, rfl, hx1, hx2⟩ := OwnP.form Hx7.out
        obtain ⟨Ay, cy, rfl, hy1, hy2⟩ := OwnP.form Hy7.out
        unfold maxLen at hx2 hy2
        clear k0 k1 s0 s1 zs a0 a1
        have rb_ := RB.out.keep HS7.out trivial
        have ra_ := RA.out.keep HS7.out trivial
        have rs_ := RS.out.keep HS7.out trivial
        have k0 : w7.cell? ⟨w.heap.size, 0, none⟩ = some (.int .i64 b.wall) := rb_.cell 0
        have k1 : w7.cell? ⟨w.heap.size, 1, none⟩ = some (.int .i64 b.tie) := rb_.cell 1
        have a0 : w7.cell? ⟨w.heap.size + 1, 0, none⟩ = some (.int .i64 a.wall) := ra_.cell 0
        have a1 : w7.cell? ⟨w.heap.size + 1, 1, none⟩ = some (.int .i64 a.tie) := ra_.cell 1
        have s0 : w7.cell? ⟨w.heap.size + 2, 0, none⟩ = some (.string (str lo)) := rs_.cell 0
        have s1 : w7.cell? ⟨w.heap.size + 2, 1, none⟩ = some (.string (str hi)) := rs_.cell 1
        have zs := rs_.lt
        clear rb_ ra_ rs_
        have hLn := HLn.out
        go_wp2_with (go_at_call 31; refine stopAt ?_)
        unfold Hid
        refine (mvmay_any v3 (trimF cs b) _ w7 Hd7.out.reads Hf3.out.good (Hf3.out.len (by omega)) (Hf3.out.vers (by omega))).mono ?_
        rintro e w8 ⟨rfl, hS8⟩
        have HS8 := Lib.hid (HS7.out.trans hS8)
        have Hx8 := Lib.hid (Hx7.out.keepAll hS8)
        have Hy8 := Lib.hid (Hy7.out.keepAll hS8)
        have Hd8 := Lib.hid (Hd7.out.keepAll hS8)
        clear hS8
        clear k0 k1 s0 s1 zs a0 a1
        go_wp2
        go_loopw [16] (fun i wr => ∃ k : Nat, i = .int .i64 k ∧ k ≤ L.length ∧ Same (fun _ => True) w8 wr) (fun i _ => L.length - (intOf i).toNat)
        case atStart => exact ⟨0, rfl, Nat.zero_le _, Same.refl _ _⟩
        case round =>
          obtain ⟨k, rfl, hk, hS9⟩ := hrel
          have HS9 := Lib.hid (HS8.out.trans hS9)
          have Hs9 := Lib.hid hS9
          have hx9 := Hx8.out.keepAll hS9
          have hy9 := Hy8.out.keepAll hS9
          clear hS9
          obtain ⟨wo, rfl⟩ : ∃ wo : World, wo = wr := ⟨_, rfl⟩
          by_cases hlt : k < L.length
          · obtain ⟨ax, rfl, -, p0, p1⟩ := OwnP.cells hx9 hlt
            obtain ⟨ay, rfl, -, q0, q1⟩ := OwnP.cells hy9 hlt
            have x1 : (0 : Int) ≤ (k : Int) := by omega
            have x2 : (k : Int) < (L.length : Int) := by omega
            generalize L[k] = pr at *
            clear hx9 hy9
            go_wp2
            go_quiet (fail)
            go_wp2
            go_roundw
            case rel => exact ⟨k + 1, by go_num, by omega, by first | exact Hs9.out.drew | exact Hs9.out.drewN _⟩
            case measure => simp [intOf]; omega
          · obtain rfl : k = L.length := by omega
            have Hd9 := Lib.hid (Hd8.out.keepAll Hs9.out)
            clear hx9 hy9
            have rb_ := RB.out.keep HS9.out trivial
            have ra_ := RA.out.keep HS9.out trivial
            have rs_ := RS.out.keep HS9.out trivial
            have k0 : wo.cell? ⟨w.heap.size, 0, none⟩ = some (.int .i64 b.wall) := rb_.cell 0
            have k1 : wo.cell? ⟨w.heap.size, 1, none⟩ = some (.int .i64 b.tie) := rb_.cell 1
            have a0 : wo.cell? ⟨w.heap.size + 1, 0, none⟩ = some (.int .i64 a.wall) := ra_.cell 0
            have a1 : wo.cell? ⟨w.heap.size + 1, 1, none⟩ = some (.int .i64 a.tie) := ra_.cell 1
            have s0 : wo.cell? ⟨w.heap.size + 2, 0, none⟩ = some (.string (str lo)) := rs_.cell 0
            have s1 : wo.cell? ⟨w.heap.size + 2, 1, none⟩ = some (.string (str hi)) := rs_.cell 1
            have zs := rs_.lt
            clear rb_ ra_ rs_
            go_wp2_with (go_at_call 32; refine stopAt ?_)
            unfold Hid
            have gt := mvtrim_any v3 (trimF cs b) b _ wo Hd9.out.reads (Hf3.out.len (by omega)) (Hf3.out.vers (by omega))
            rw [trim_twice] at gt
            refine gt.mono ?_
            rintro e w10 ⟨v4, rfl, hown4, hS10⟩
            have HS10 := Lib.hid (HS9.out.trans hS10)
            have Hd10 := Lib.hid (Hd9.out.keepAll hS10)
            have He10 := Lib.hid hown4
            clear hS10 hown4 gt
            clear k0 k1 s0 s1 zs a0 a1
            go_wp2_with (go_at_call 29; refine stopAt ?_)
            unfold Hid
            refine (same_any v4 v3 (trimF cs b) _ _ w10 He10.out.reads Hd10.out.reads (Hf3.out.len (by omega)) (Hf3.out.vers (by omega))).mono ?_
            rintro e w11 ⟨rfl, hS11⟩
            have HS11 := Lib.hid (HS10.out.trans hS11)
            clear hS11
            go_wp2
            go_ret
            exact ⟨rfl, HSt.out.trans HS11.out⟩
      · have Hab := Lib.hid (less_irrefl b)
        have fz0 : w4.frozen? ⟨w.heap.size + 1, 0, none⟩ = false := (RAt.out.keep HS4.out trivial).frozen 0
        have fz1 : w4.frozen? ⟨w.heap.size + 1, 1, none⟩ = false := (RAt.out.keep HS4.out trivial).frozen 1
        clear hl
        go_wp2_with (with_reducible refine stopDst 58 rfl ?_)
        unfold Hid
        generalize hW : World.setCell _ _ _ = wt
        have rw4 := RAt.out.keep HS4.out trivial
        have ra5 := (rw4.set_ 0 (.int .i64 b.wall)).set_ 1 (.int .i64 b.tie)
        rw [hW] at ra5
        have RA := Lib.hid (show Row wt (w.heap.size + 1) 28 (stCs b) from ra5)
        have hSw : Same (fun k => k ≠ w.heap.size + 1) w4 wt := by
          rw [← hW]; exact ((Same.refl _ _).setCell (fun _ h => h rfl) _).setCell (fun _ h => h rfl) _
        have hB1 := HBe.out
        have HSt := Lib.hid ((HS1.out.trans HS4.out).trans' hSw (fun i hi _ => by omega))
        have RB := Lib.hid ((RBl.out.keep HS4.out trivial).keep hSw (by omega))
        have RS := Lib.hid ((RSp.out.keep HS4.out trivial).keep hSw (by omega))
        have Hct := Lib.hid (Hc4.out.keep hSw fun k hk _ => by omega)
        have Hdt := Lib.hid (Hd4.out.keep hSw fun k hk _ => by omega)
        clear hW rw4 ra5 hSw hB1 Hc4 Hd4 RBl RAt RSp HS4 fz0 fz1
        clear k0 k1 s0 s1 zs a0 a1
        have rb_ := RB.out.keep (Same.refl (fun _ => True) wt) trivial
        have ra_ := RA.out.keep (Same.refl (fun _ => True) wt) trivial
        have rs_ := RS.out.keep (Same.refl (fun _ => True) wt) trivial
        have k0 : wt.cell? ⟨w.heap.size, 0, none⟩ = some (.int .i64 b.wall) := rb_.cell 0
        have k1 : wt.cell? ⟨w.heap.size, 1, none⟩ = some (.int .i64 b.tie) := rb_.cell 1
        have a0 : wt.cell? ⟨w.heap.size + 1, 0, none⟩ = some (.int .i64 b.wall) := ra_.cell 0
        have a1 : wt.cell? ⟨w.heap.size + 1, 1, none⟩ = some (.int .i64 b.tie) := ra_.cell 1
        have s0 : wt.cell? ⟨w.heap.size + 2, 0, none⟩ = some (.string (str lo)) := rs_.cell 0
        have s1 : wt.cell? ⟨w.heap.size + 2, 1, none⟩ = some (.string (str hi)) := rs_.cell 1
        have zs := rs_.lt
        clear rb_ ra_ rs_
        have hsc := scan_trim Hab.out lo hi cs 1000
        obtain ⟨⟨L, E⟩, hLE⟩ : ∃ r, r = scanF cs lo hi b 1000 := ⟨_, rfl⟩
        rw [← hLE] at hsc
        have hLn : L.length ≤ 1000 := by
          have e := hLE
          unfold scanF at e
          split at e
          · injection e with e _; rw [e]; simp
          · rename_i h; injection e with e _; rw [e]; omega
        go_wp2_with (go_at_call 33; refine stopAt ?_)
        unfold Hid
        have gx := mvscan_any (.slice Al nl cl) cs lo hi b 1000 (fun k => k < wt.heap.size) wt (Hct.out.reads.mono fun k hk _ => hk) (fun k h => h) Hf.out.good.sorted (by have := Hf.out.len (by omega); omega)
        rw [← hLE] at gx
        refine gx.mono ?_
        rintro e w6 ⟨vx, rfl, hx, hS6⟩
        have Hsc := Lib.hid hsc
        have HLn := Lib.hid hLn
        clear hLE hsc hLn gx
        have HS6 := Lib.hid hS6
        have Hx6 := Lib.hid hx
        have Hd6 := Lib.hid (Hdt.out.keepAll hS6)
        clear hS6 hx
        clear k0 k1 s0 s1 zs a0 a1
        have rb_ := RB.out.keep HS6.out trivial
        have ra_ := RA.out.keep HS6.out trivial
        have rs_ := RS.out.keep HS6.out trivial
        have k0 : w6.cell? ⟨w.heap.size, 0, none⟩ = some (.int .i64 b.wall) := rb_.cell 0
        have k1 : w6.cell? ⟨w.heap.size, 1, none⟩ = some (.int .i64 b.tie) := rb_.cell 1
        have a0 : w6.cell? ⟨w.heap.size + 1, 0, none⟩ = some (.int .i64 b.wall) := ra_.cell 0
        have a1 : w6.cell? ⟨w.heap.size + 1, 1, none⟩ = some (.int .i64 b.tie) := ra_.cell 1
        have s0 : w6.cell? ⟨w.heap.size + 2, 0, none⟩ = some (.string (str lo)) := rs_.cell 0
        have s1 : w6.cell? ⟨w.heap.size + 2, 1, none⟩ = some (.string (str hi)) := rs_.cell 1
        have zs := rs_.lt
        clear rb_ ra_ rs_
        go_wp2_with (go_at_call 33; refine stopAt ?_)
        unfold Hid
        have gy := mvscan_any v3 (trimF cs b) lo hi b 1000 (fun k => k < w6.heap.size) w6 (Hd6.out.reads.mono fun k hk _ => hk) (fun k h => h) Hf3.out.good.sorted (by have := Hf3.out.len (by omega); omega)
        rw [Hsc.out] at gy
        refine gy.mono ?_
        rintro e w7 ⟨vy, rfl, hy, hS7⟩
        have HS7 := Lib.hid (HS6.out.trans hS7)
        have Hx7 := Lib.hid (Hx6.out.keepAll hS7)
        have Hd7 := Lib.hid (Hd6.out.keepAll hS7)
        have Hy7 := Lib.hid hy
        clear hS7 hy gy
        obtain ⟨Ax, cx, rfl, hx1, hx2⟩ := OwnP.form Hx7.out
        obtain ⟨Ay, cy, rfl, hy1, hy2⟩ := OwnP.form Hy7.out
        unfold maxLen at hx2 hy2
        clear k0 k1 s0 s1 zs a0 a1
        have rb_ := RB.out.keep HS7.out trivial
        have ra_ := RA.out.keep HS7.out trivial
        have rs_ := RS.out.keep HS7.out trivial
        have k0 : w7.cell? ⟨w.heap.size, 0, none⟩ = some (.int .i64 b.wall) := rb_.cell 0
        have k1 : w7.cell? ⟨w.heap.size, 1, none⟩ = some (.int .i64 b.tie) := rb_.cell 1
        have a0 : w7.cell? ⟨w.heap.size + 1, 0, none⟩ = some (.int .i64 b.wall) := ra_.cell 0
        have a1 : w7.cell? ⟨w.heap.size + 1, 1, none⟩ = some (.int .i64 b.tie) := ra_.cell 1
        have s0 : w7.cell? ⟨w.heap.size + 2, 0, none⟩ = some (.string (str lo)) := rs_.cell 0
        have s1 : w7.cell? ⟨w.heap.size + 2, 1, none⟩ = some (.string (str hi)) := rs_.cell 1
        have zs := rs_.lt
        clear rb_ ra_ rs_
        have hLn := HLn.out
        go_wp2_with (go_at_call 31; refine stopAt ?_)
        unfold Hid
        refine (mvmay_any v3 (trimF cs b) _ w7 Hd7.out.reads Hf3.out.good (Hf3.out.len (by omega)) (Hf3.out.vers (by omega))).mono ?_
        rintro e w8 ⟨rfl, hS8⟩
        have HS8 := Lib.hid (HS7.out.trans hS8)
        have Hx8 := Lib.hid (Hx7.out.keepAll hS8)
        have Hy8 := Lib.hid (Hy7.out.keepAll hS8)
        have Hd8 := Lib.hid (Hd7.out.keepAll hS8)
        clear hS8
        clear k0 k1 s0 s1 zs a0 a1
        go_wp2
        go_loopw [16] (fun i wr => ∃ k : Nat, i = .int .i64 k ∧ k ≤ L.length ∧ Same (fun _ => True) w8 wr) (fun i _ => L.length - (intOf i).toNat)
        case atStart => exact ⟨0, rfl, Nat.zero_le _, Same.refl _ _⟩
        case round =>
          obtain ⟨k, rfl, hk, hS9⟩ := hrel
          have HS9 := Lib.hid (HS8.out.trans hS9)
          have Hs9 := Lib.hid hS9
          have hx9 := Hx8.out.keepAll hS9
          have hy9 := Hy8.out.keepAll hS9
          clear hS9
          obtain ⟨wo, rfl⟩ : ∃ wo : World, wo = wr := ⟨_, rfl⟩
          by_cases hlt : k < L.length
          · obtain ⟨ax, rfl, -, p0, p1⟩ := OwnP.cells hx9 hlt
            obtain ⟨ay, rfl, -, q0, q1⟩ := OwnP.cells hy9 hlt
            have x1 : (0 : Int) ≤ (k : Int) := by omega
            have x2 : (k : Int) < (L.length : Int) := by omega
            generalize L[k] = pr at *
            clear hx9 hy9
            go_wp2
            go_quiet (fail)
            go_wp2
            go_roundw
            case rel => exact ⟨k + 1, by go_num, by omega, by first | exact Hs9.out.drew | exact Hs9.out.drewN _⟩
            case measure => simp [intOf]; omega
          · obtain rfl : k = L.length := by omega
            have Hd9 := Lib.hid (Hd8.out.keepAll Hs9.out)
            clear hx9 hy9
            have rb_ := RB.out.keep HS9.out trivial
            have ra_ := RA.out.keep HS9.out trivial
            have rs_ := RS.out.keep HS9.out trivial
            have k0 : wo.cell? ⟨w.heap.size, 0, none⟩ = some (.int .i64 b.wall) := rb_.cell 0
            have k1 : wo.cell? ⟨w.heap.size, 1, none⟩ = some (.int .i64 b.tie) := rb_.cell 1
            have a0 : wo.cell? ⟨w.heap.size + 1, 0, none⟩ = some (.int .i64 b.wall) := ra_.cell 0
            have a1 : wo.cell? ⟨w.heap.size + 1, 1, none⟩ = some (.int .i64 b.tie) := ra_.cell 1
            have s0 : wo.cell? ⟨w.heap.size + 2, 0, none⟩ = some (.string (str lo)) := rs_.cell 0
            have s1 : wo.cell? ⟨w.heap.size + 2, 1, none⟩ = some (.string (str hi)) := rs_.cell 1
            have zs := rs_.lt
            clear rb_ ra_ rs_
            go_wp2_with (go_at_call 32; refine stopAt ?_)
            unfold Hid
            have gt := mvtrim_any v3 (trimF cs b) b _ wo Hd9.out.reads (Hf3.out.len (by omega)) (Hf3.out.vers (by omega))
            rw [trim_twice] at gt
            refine gt.mono ?_
            rintro e w10 ⟨v4, rfl, hown4, hS10⟩
            have HS10 := Lib.hid (HS9.out.trans hS10)
            have Hd10 := Lib.hid (Hd9.out.keepAll hS10)
            have He10 := Lib.hid hown4
            clear hS10 hown4 gt
            clear k0 k1 s0 s1 zs a0 a1
            go_wp2_with (go_at_call 29; refine stopAt ?_)
            unfold Hid
            refine (same_any v4 v3 (trimF cs b) _ _ w10 He10.out.reads Hd10.out.reads (Hf3.out.len (by omega)) (Hf3.out.vers (by omega))).mono ?_
            rintro e w11 ⟨rfl, hS11⟩
            have HS11 := Lib.hid (HS10.out.trans hS11)
            clear hS11
            go_wp2
            go_ret
            exact ⟨rfl, HSt.out.trans HS11.out⟩
end Go.Proofs.Ytoldelocfmpccaa
