/-
  The walk of ExprValues.
-/
import Derived.Test.YtakbikibahhepaaExR8
set_option linter.unusedSimpArgs false
set_option linter.unusedVariables false
namespace Go.Proofs.Ytakbikibahhepaa
open Go.RowKit

set_option maxRecDepth 100000 in
set_option maxHeartbeats 16000000 in
theorem values_walk (u rv : Value) (e : Ex) (row : List Val) (w : World) (hv : ExR w (fun _ => True) u e) (hrow : VaR w (fun _ => True) rv row) (hei : ExI e) (hri : ∀ x ∈ row, i64B x.n = true) :
    Calls Try.prog 4 #[exV u e, rv] w (BoolP true w) := by
  obtain ⟨A, c, rfl, hc, hm⟩ := hv.toL.form
  obtain ⟨Ar, cr, rfl, hrc, hrm⟩ := hrow.form
  unfold maxLen at hm hrm
  have hS0 := (Same.refl (fun _ => True) w).alloc (.cells (exCs (.slice A e.args.length c) e).toArray 26)
  have hre := Row.new w 26 (exCs (.slice A e.args.length c) e)
  have hls := light_size e 500
  have hli := fun W h => light_any (fun _ => True) e (.slice A e.args.length c) 500 W h (by omega)
  obtain ⟨L, hL⟩ : ∃ L, lightF e 500 = L := ⟨_, rfl⟩
  rw [hL] at hls hli
  have hTy : Hid (e.size ≤ 500 → ∀ W v, Same (fun _ => True) w W → TabVal W v → Calls Try.prog 16 #[v, .slice Ar row.length cr, exV (.slice A e.args.length c) e] W (ValEP (evalTF cols3 row e) W)) := Lib.hid fun hs W v h1 h2 => refEval_v v _ _ row e W h2 (hv.keepAll h1) (RowR.keepAll hrow h1) (by omega) hei hri
  have hEv : Hid (e.size ≤ 500 → ∀ W v, Same (fun _ => True) w W → TabVal W v → Calls Try.prog 15 #[v, .slice Ar row.length cr, exV (.slice A e.args.length c) e] W (ValEP (evalTF cols3 row e) W)) := Lib.hid fun hs W v h1 h2 => exEval_v v _ _ row e W h2 (hv.keepAll h1) (RowR.keepAll hrow h1) (by omega) hei hri
  obtain ⟨F, hF⟩ : ∃ F, evalTF cols3 row e = F := ⟨_, rfl⟩
  rw [hF] at hTy hEv
  have Hrow := Lib.hid hrow
  have Hls := Lib.hid hls
  have HS0 := Lib.hid hS0
  have Hre := Lib.hid hre
  have Hv := Lib.hid hv
  clear hL hF hS0 hre hls hv hrow hei hri
  go_enter Try.func4, Try.ntmps4
  go_wp2_with (go_at_call 10; refine stopAt ?_)
  unfold Hid
  refine (begun_any _).mono ?_
  rintro e' w1 ⟨rfl, hS1⟩
  have hre1 := Hre.out.keep hS1 trivial
  have k0 : w1.cell? ⟨w.heap.size, 0, none⟩ = some (.int .i64 e.kind) := hre1.cell 0
  have k1 : w1.cell? ⟨w.heap.size, 1, none⟩ = some (.string (str e.s)) := hre1.cell 1
  have k2 : w1.cell? ⟨w.heap.size, 2, none⟩ = some (.int .i64 e.v.kind) := hre1.cell 2
  have k3 : w1.cell? ⟨w.heap.size, 3, none⟩ = some (.int .i64 e.v.n) := hre1.cell 3
  have k4 : w1.cell? ⟨w.heap.size, 4, none⟩ = some (.string (str e.v.s)) := hre1.cell 4
  have k5 : w1.cell? ⟨w.heap.size, 5, none⟩ = some (.slice A e.args.length c) := hre1.cell 5
  have HS1 := Lib.hid (HS0.out.trans hS1)
  have Hre1 := Lib.hid hre1
  have z1 := hre1.lt
  have hl1 := hli w1 (Hv.out.keepAll HS1.out)
  clear hS1 hre1 hli
  by_cases hL0 : L = 0
  · subst hL0
    go_wp2_with (go_at_call 11; refine stopAt ?_)
    unfold Hid
    refine hl1.mono ?_
    rintro e' w2 ⟨rfl, hS2⟩
    have HS2 := Lib.hid hS2
    clear hS2 hl1
    go_wp2
    go_ret
    exact ⟨rfl, HS1.out.trans HS2.out⟩
  have hsz : e.size ≤ 500 := by have := Hls.out hL0; omega
  have hTy2 := Lib.hid (hTy.out hsz)
  have hEv2 := Lib.hid (hEv.out hsz)
  have bL : ((L : Int) == 0) = false := by simp; omega
  clear hL0 hsz
  go_wp2_with (go_at_call 11; refine stopAt ?_)
  unfold Hid
  refine hl1.mono ?_
  rintro e' W2 ⟨rfl, hS2⟩
  have HS2 := Lib.hid (HS1.out.trans hS2)
  have hre2 := Hre1.out.keep hS2 trivial
  have k0 : W2.cell? ⟨w.heap.size, 0, none⟩ = some (.int .i64 e.kind) := hre2.cell 0
  have k1 : W2.cell? ⟨w.heap.size, 1, none⟩ = some (.string (str e.s)) := hre2.cell 1
  have k2 : W2.cell? ⟨w.heap.size, 2, none⟩ = some (.int .i64 e.v.kind) := hre2.cell 2
  have k3 : W2.cell? ⟨w.heap.size, 3, none⟩ = some (.int .i64 e.v.n) := hre2.cell 3
  have k4 : W2.cell? ⟨w.heap.size, 4, none⟩ = some (.string (str e.v.s)) := hre2.cell 4
  have k5 : W2.cell? ⟨w.heap.size, 5, none⟩ = some (.slice A e.args.length c) := hre2.cell 5
  have z2 := hre2.lt
  have Hre2 := Lib.hid hre2
  clear hS2 hl1 hre2 z1
  by_cases hr12 : 12 < row.length
  · have x1 : (12 : Int) < (row.length : Int) := by omega
    clear hr12
    go_wp2
    go_ret
    exact ⟨rfl, HS2.out⟩
  have x1 : (row.length : Int) ≤ 12 := by omega
  clear hr12
  go_wp2
  clear k0 k1 k2 k3 k4 k5 z2 bL
  go_loopw [5] (fun i wr => ∃ j : Nat, j ≤ row.length ∧ i = .int .i64 j ∧ Same (fun _ => True) W2 wr) (fun i _ => row.length - (intOf i).toNat)
  case atStart => exact ⟨0, Nat.zero_le _, rfl, Same.refl _ _⟩
  case round =>
    obtain ⟨j, hj, rfl, hS⟩ := hrel
    have HSr := Lib.hid hS
    by_cases hlt : j < row.length
    · obtain ⟨ad, rfl, -, d0, d1, d2⟩ := VaR.cells (RowR.keepAll Hrow.out (HS2.out.trans hS)) hlt
      have x2 : (0 : Int) ≤ (j : Int) := by omega
      have x3 : (j : Int) < (row.length : Int) := by omega
      generalize row[j] = x at *
      have hab := World.block_lt_of_cell? wr _ d0
      clear hS
      by_cases h2 : 200 < (str x.s).size
      · have x4 : (200 : Int) < ((str x.s).size : Int) := by omega
        clear h2
        go_wp2
        go_ret
        exact ⟨rfl, HS2.out.trans HSr.out⟩
      · have x4 : ((str x.s).size : Int) ≤ 200 := by omega
        clear h2
        go_wp2
        go_roundw
        case rel => exact ⟨j + 1, by omega, by go_num, HSr.out⟩
        case measure => simp [intOf]; omega
    · obtain rfl : j = row.length := by omega
      have x5 : (row.length : Int) ≤ (row.length : Int) := by omega
      have HS3 := Lib.hid (HS2.out.trans hS)
      have hre3 := Hre2.out.keep hS trivial
      have z3 := hre3.lt
      have Hre3 := Lib.hid hre3
      have k0 : wr.cell? ⟨w.heap.size, 0, none⟩ = some (.int .i64 e.kind) := hre3.cell 0
      have k1 : wr.cell? ⟨w.heap.size, 1, none⟩ = some (.string (str e.s)) := hre3.cell 1
      have k2 : wr.cell? ⟨w.heap.size, 2, none⟩ = some (.int .i64 e.v.kind) := hre3.cell 2
      have k3 : wr.cell? ⟨w.heap.size, 3, none⟩ = some (.int .i64 e.v.n) := hre3.cell 3
      have k4 : wr.cell? ⟨w.heap.size, 4, none⟩ = some (.string (str e.v.s)) := hre3.cell 4
      have k5 : wr.cell? ⟨w.heap.size, 5, none⟩ = some (.slice A e.args.length c) := hre3.cell 5
      clear hS hre3 hEv hTy
      go_wp2
      go_upto_region 10 with (fail)
      go_cut [6, 7] from 33 to 39 (fun vA vB wx => ∃ (W4 : World) (g : Nat), W4 = wx ∧ vA = .pointer (some ⟨g, 0, none⟩) ∧ vB = .int .i64 F.2 ∧ wr.heap.size ≤ g ∧ Row W4 g 23 (valCs F.1) ∧ Same (fun _ => True) wr W4)
      case first =>
        refine wp_region_tail_d (L := [.of .tab, .eq (.slice Ar row.length cr), .eq (exV (.slice A e.args.length c) e), .eq (.tuple #[valV F.1, .int .i64 F.2]), .eq (.tuple #[valV F.1, .int .i64 F.2]), .eq (valV F.1), .eq (.int .i64 F.2), .of (.fresh wr.heap.size 23 (valCs .zero))]) 8 6 (by omega) (by kernel_rfl) (by kernel_rfl) rfl rfl rfl rfl rfl rfl ?_ ?_ ?_
        · refine ⟨?_, ?_, ?_, ?_, ?_, ?_, ?_, ?_, trivial⟩
          · intro ac wc hs hd hz hf hw K hK
            clear hd hz hf hw
            simp only [Region.wanted, if_true, Oper.wp, execOp, resolve, List.map_toArray, List.map_cons, List.map_nil, Option.map_some, Option.map_none]
            go_simp
            refine (table_any _).mono ?_
            rintro e wd ⟨vt, rfl, ht9, hs9⟩
            exact hK _ _ ht9 hs9
          · intro ac wc hs hd hz hf hw K hK
            have e0 : ac.eval (.tmp 1) = (.slice Ar row.length cr) := hf 1 rfl
            clear hd hz hf hw
            simp only [Region.wanted, if_true, Oper.wp, execOp, resolve, List.map_toArray, List.map_cons, List.map_nil, Option.map_some, Option.map_none, e0]
            go_simp
            exact hK _ _ rfl (Same.refl _ _)
          · intro ac wc hs hd hz hf hw K hK
            have e0 : ac.eval (.tmp 2) = (.pointer (some ⟨w.heap.size, 0, none⟩)) := hf 2 rfl
            have m0 : wc.cell? ⟨w.heap.size, 0, none⟩ = some (.int .i64 e.kind) := hs.cell (p := ⟨w.heap.size, 0, none⟩) trivial k0
            have m1 : wc.cell? ⟨w.heap.size, 1, none⟩ = some (.string (str e.s)) := hs.cell (p := ⟨w.heap.size, 1, none⟩) trivial k1
            have m2 : wc.cell? ⟨w.heap.size, 2, none⟩ = some (.int .i64 e.v.kind) := hs.cell (p := ⟨w.heap.size, 2, none⟩) trivial k2
            have m3 : wc.cell? ⟨w.heap.size, 3, none⟩ = some (.int .i64 e.v.n) := hs.cell (p := ⟨w.heap.size, 3, none⟩) trivial k3
            have m4 : wc.cell? ⟨w.heap.size, 4, none⟩ = some (.string (str e.v.s)) := hs.cell (p := ⟨w.heap.size, 4, none⟩) trivial k4
            have m5 : wc.cell? ⟨w.heap.size, 5, none⟩ = some (.slice A e.args.length c) := hs.cell (p := ⟨w.heap.size, 5, none⟩) trivial k5
            clear hd hz hf hw
            simp only [Region.wanted, if_true, Oper.wp, execOp, resolve, List.map_toArray, List.map_cons, List.map_nil, Option.map_some, Option.map_none, e0]
            go_simp
            exact hK _ _ rfl (Same.refl _ _)
          · intro ac wc hs hd hz hf hw K hK
            have p0 : (.tab : SP).p (ac.eval (.tmp 34)) wc := hw 0 rfl
            obtain ⟨u0, e0⟩ : ∃ u, ac.eval (.tmp 34) = u := ⟨_, rfl⟩
            rw [e0] at p0
            have e1 : ac.eval (.tmp 35) = (.slice Ar row.length cr) := hw 1 rfl
            have e2 : ac.eval (.tmp 36) = (exV (.slice A e.args.length c) e) := hw 2 rfl
            clear hd hz hf hw
            simp only [Region.wanted, if_true, Oper.wp, execOp, resolve, List.map_toArray, List.map_cons, List.map_nil, Option.map_some, Option.map_none, e0, e1, e2]
            go_simp
            refine (hEv2.out _ _ (HS3.out.trans hs) p0).mono ?_
            rintro e wd ⟨rfl, hs2⟩
            exact hK _ _ rfl hs2
          · intro ac wc hs hd hz hf hw K hK
            have e0 : ac.eval (.tmp 37) = (.tuple #[valV F.1, .int .i64 F.2]) := hw 3 rfl
            clear hd hz hf hw
            simp only [Region.wanted, if_true, Oper.wp, execOp, resolve, List.map_toArray, List.map_cons, List.map_nil, Option.map_some, Option.map_none, e0]
            go_simp
            exact hK _ _ rfl (Same.refl _ _)
          · intro ac wc hs hd hz hf hw K hK
            have e0 : ac.eval (.tmp 33) = (.tuple #[valV F.1, .int .i64 F.2]) := hw 4 rfl
            clear hd hz hf hw
            simp only [Region.wanted, if_true, Oper.wp, execOp, resolve, List.map_toArray, List.map_cons, List.map_nil, Option.map_some, Option.map_none, e0]
            go_simp
            exact hK _ _ rfl (Same.refl _ _)
          · intro ac wc hs hd hz hf hw K hK
            have e0 : ac.eval (.tmp 33) = (.tuple #[valV F.1, .int .i64 F.2]) := hw 4 rfl
            clear hd hz hf hw
            simp only [Region.wanted, if_true, Oper.wp, execOp, resolve, List.map_toArray, List.map_cons, List.map_nil, Option.map_some, Option.map_none, e0]
            go_simp
            exact hK _ _ rfl (Same.refl _ _)
          · intro ac wc hs hd hz hf hw K hK
            clear hd hz hf hw
            simp only [Region.wanted, if_true, Oper.wp, execOp, resolve, List.map_toArray, List.map_cons, List.map_nil, Option.map_some, Option.map_none]
            go_simp
            exact hK _ _ ⟨_, rfl, hs.size, Row.new wc _ (valCs .zero)⟩ ((Same.refl _ _).alloc _)
        · intro vs wR hvl hvp hsR
          rcases vs with _ | ⟨z0, _ | ⟨z1, _ | ⟨z2, _ | ⟨z3, _ | ⟨z4, _ | ⟨z5, _ | ⟨z6, _ | ⟨z7, _ | ⟨zz, zr⟩⟩⟩⟩⟩⟩⟩⟩⟩
          rotate_right 1
          · simp at hvl
          · simp at hvl
          · simp at hvl
          · simp at hvl
          · simp at hvl
          · simp at hvl
          · simp at hvl
          · simp at hvl
          · simp at hvl
          · have htb : (.tab : SP).p z0 wR := hvp 0 (by omega)
            obtain rfl : z1 = (.slice Ar row.length cr) := hvp 1 (by omega)
            obtain rfl : z2 = (exV (.slice A e.args.length c) e) := hvp 2 (by omega)
            obtain rfl : z3 = (.tuple #[valV F.1, .int .i64 F.2]) := hvp 3 (by omega)
            obtain rfl : z4 = (.tuple #[valV F.1, .int .i64 F.2]) := hvp 4 (by omega)
            obtain rfl : z5 = (valV F.1) := hvp 5 (by omega)
            obtain rfl : z6 = (.int .i64 F.2) := hvp 6 (by omega)
            have hfr : ((.fresh wr.heap.size 23 (valCs .zero)) : SP).p z7 wR := hvp 7 (by omega)
            clear hvl hvp
            simp only [putAll, Act.put, List.setIfInBounds_toArray, List.set_cons_succ, List.set_cons_zero, List.take_succ_cons, List.take_zero, List.drop_succ_cons, List.drop_zero, List.eraseIdx_cons_succ, List.eraseIdx_cons_zero]
            obtain ⟨g, rfl, hg, hrg⟩ := hfr
            have y0 : wR.cell? ⟨g, 0, none⟩ = some (.int .i64 0) := hrg.cell 0
            have y1 : wR.cell? ⟨g, 1, none⟩ = some (.int .i64 0) := hrg.cell 1
            have y2 : wR.cell? ⟨g, 2, none⟩ = some (.string (str [])) := hrg.cell 2
            have x0 : wR.frozen? ⟨g, 0, none⟩ = false := hrg.frozen 0
            have x1 : wR.frozen? ⟨g, 1, none⟩ = false := hrg.frozen 1
            have x2 : wR.frozen? ⟨g, 2, none⟩ = false := hrg.frozen 2
            have Hrg := Lib.hid hrg
            have HsR := Lib.hid hsR
            have zG := hrg.lt
            clear hsR hrg 
            go_wp2
            go_meet
            exact ⟨_, g, rfl, rfl, rfl, hg, Hrg.out.set3 _, HsR.out.set3 (fun h => by omega) _ _ _⟩
        · intro vs wR hvl hvp hsR
          rcases vs with _ | ⟨z0, _ | ⟨z1, _ | ⟨z2, _ | ⟨z3, _ | ⟨z4, _ | ⟨z5, _ | ⟨z7, _ | ⟨zz, zr⟩⟩⟩⟩⟩⟩⟩⟩
          rotate_right 1
          · simp at hvl
          · simp at hvl
          · simp at hvl
          · simp at hvl
          · simp at hvl
          · simp at hvl
          · simp at hvl
          · simp at hvl
          · have htb : (.tab : SP).p z0 wR := hvp 0 (by omega)
            obtain rfl : z1 = (.slice Ar row.length cr) := hvp 1 (by omega)
            obtain rfl : z2 = (exV (.slice A e.args.length c) e) := hvp 2 (by omega)
            obtain rfl : z3 = (.tuple #[valV F.1, .int .i64 F.2]) := hvp 3 (by omega)
            obtain rfl : z4 = (.tuple #[valV F.1, .int .i64 F.2]) := hvp 4 (by omega)
            obtain rfl : z5 = (valV F.1) := hvp 5 (by omega)
            have hfr : ((.fresh wr.heap.size 23 (valCs .zero)) : SP).p z7 wR := hvp 6 (by omega)
            clear hvl hvp
            simp only [putAll, Act.put, List.setIfInBounds_toArray, List.set_cons_succ, List.set_cons_zero, List.take_succ_cons, List.take_zero, List.drop_succ_cons, List.drop_zero, List.eraseIdx_cons_succ, List.eraseIdx_cons_zero]
            obtain ⟨g, rfl, hg, hrg⟩ := hfr
            have y0 : wR.cell? ⟨g, 0, none⟩ = some (.int .i64 0) := hrg.cell 0
            have y1 : wR.cell? ⟨g, 1, none⟩ = some (.int .i64 0) := hrg.cell 1
            have y2 : wR.cell? ⟨g, 2, none⟩ = some (.string (str [])) := hrg.cell 2
            have x0 : wR.frozen? ⟨g, 0, none⟩ = false := hrg.frozen 0
            have x1 : wR.frozen? ⟨g, 1, none⟩ = false := hrg.frozen 1
            have x2 : wR.frozen? ⟨g, 2, none⟩ = false := hrg.frozen 2
            have Hrg := Lib.hid hrg
            have HsR := Lib.hid hsR
            have zG := hrg.lt
            clear hsR hrg 
            go_wp2
            go_meet
            exact ⟨_, g, rfl, rfl, rfl, hg, Hrg.out.set3 _, HsR.out.set3 (fun h => by omega) _ _ _⟩
      case rest =>
        obtain ⟨W4, g4, rfl, rfl, rfl, hg4, hr4, hS4⟩ := hcut
        have HS4 := Lib.hid (HS3.out.trans hS4)
        have hre4 := Hre3.out.keep hS4 trivial
        clear k0
        clear k1
        clear k2
        clear k3
        clear k4
        clear k5
        have k0 : W4.cell? ⟨w.heap.size, 0, none⟩ = some (.int .i64 e.kind) := hre4.cell 0
        have k1 : W4.cell? ⟨w.heap.size, 1, none⟩ = some (.string (str e.s)) := hre4.cell 1
        have k2 : W4.cell? ⟨w.heap.size, 2, none⟩ = some (.int .i64 e.v.kind) := hre4.cell 2
        have k3 : W4.cell? ⟨w.heap.size, 3, none⟩ = some (.int .i64 e.v.n) := hre4.cell 3
        have k4 : W4.cell? ⟨w.heap.size, 4, none⟩ = some (.string (str e.v.s)) := hre4.cell 4
        have k5 : W4.cell? ⟨w.heap.size, 5, none⟩ = some (.slice A e.args.length c) := hre4.cell 5
        have z4 := hre4.lt
        have Hr4 := Lib.hid hr4
        have Hre4 := Lib.hid hre4
        clear hS4 hre4 hr4 z3
        go_wp2
        go_upto_region 11 with (fail)
        go_cut [8, 9] from 40 to 46 (fun vA vB wx => ∃ (W5 : World) (g : Nat), W5 = wx ∧ vA = .pointer (some ⟨g, 0, none⟩) ∧ vB = .int .i64 F.2 ∧ W4.heap.size ≤ g ∧ Row W5 g 23 (valCs F.1) ∧ Same (fun _ => True) W4 W5)
        case first =>
          refine wp_region_tail_d (L := [.of .tab, .eq (.slice Ar row.length cr), .eq (exV (.slice A e.args.length c) e), .eq (.tuple #[valV F.1, .int .i64 F.2]), .eq (.tuple #[valV F.1, .int .i64 F.2]), .eq (valV F.1), .eq (.int .i64 F.2), .of (.fresh W4.heap.size 23 (valCs .zero))]) 8 6 (by omega) (by kernel_rfl) (by kernel_rfl) rfl rfl rfl rfl rfl rfl ?_ ?_ ?_
          · refine ⟨?_, ?_, ?_, ?_, ?_, ?_, ?_, ?_, trivial⟩
            · intro ac wc hs hd hz hf hw K hK
              clear hd hz hf hw
              simp only [Region.wanted, if_true, Oper.wp, execOp, resolve, List.map_toArray, List.map_cons, List.map_nil, Option.map_some, Option.map_none]
              go_simp
              refine (table_any _).mono ?_
              rintro e wd ⟨vt, rfl, ht9, hs9⟩
              exact hK _ _ ht9 hs9
            · intro ac wc hs hd hz hf hw K hK
              have e0 : ac.eval (.tmp 1) = (.slice Ar row.length cr) := hf 1 rfl
              clear hd hz hf hw
              simp only [Region.wanted, if_true, Oper.wp, execOp, resolve, List.map_toArray, List.map_cons, List.map_nil, Option.map_some, Option.map_none, e0]
              go_simp
              exact hK _ _ rfl (Same.refl _ _)
            · intro ac wc hs hd hz hf hw K hK
              have e0 : ac.eval (.tmp 2) = (.pointer (some ⟨w.heap.size, 0, none⟩)) := hf 2 rfl
              have m0 : wc.cell? ⟨w.heap.size, 0, none⟩ = some (.int .i64 e.kind) := hs.cell (p := ⟨w.heap.size, 0, none⟩) trivial k0
              have m1 : wc.cell? ⟨w.heap.size, 1, none⟩ = some (.string (str e.s)) := hs.cell (p := ⟨w.heap.size, 1, none⟩) trivial k1
              have m2 : wc.cell? ⟨w.heap.size, 2, none⟩ = some (.int .i64 e.v.kind) := hs.cell (p := ⟨w.heap.size, 2, none⟩) trivial k2
              have m3 : wc.cell? ⟨w.heap.size, 3, none⟩ = some (.int .i64 e.v.n) := hs.cell (p := ⟨w.heap.size, 3, none⟩) trivial k3
              have m4 : wc.cell? ⟨w.heap.size, 4, none⟩ = some (.string (str e.v.s)) := hs.cell (p := ⟨w.heap.size, 4, none⟩) trivial k4
              have m5 : wc.cell? ⟨w.heap.size, 5, none⟩ = some (.slice A e.args.length c) := hs.cell (p := ⟨w.heap.size, 5, none⟩) trivial k5
              clear hd hz hf hw
              simp only [Region.wanted, if_true, Oper.wp, execOp, resolve, List.map_toArray, List.map_cons, List.map_nil, Option.map_some, Option.map_none, e0]
              go_simp
              exact hK _ _ rfl (Same.refl _ _)
            · intro ac wc hs hd hz hf hw K hK
              have p0 : (.tab : SP).p (ac.eval (.tmp 41)) wc := hw 0 rfl
              obtain ⟨u0, e0⟩ : ∃ u, ac.eval (.tmp 41) = u := ⟨_, rfl⟩
              rw [e0] at p0
              have e1 : ac.eval (.tmp 42) = (.slice Ar row.length cr) := hw 1 rfl
              have e2 : ac.eval (.tmp 43) = (exV (.slice A e.args.length c) e) := hw 2 rfl
              clear hd hz hf hw
              simp only [Region.wanted, if_true, Oper.wp, execOp, resolve, List.map_toArray, List.map_cons, List.map_nil, Option.map_some, Option.map_none, e0, e1, e2]
              go_simp
              refine (hTy2.out _ _ (HS4.out.trans hs) p0).mono ?_
              rintro e wd ⟨rfl, hs2⟩
              exact hK _ _ rfl hs2
            · intro ac wc hs hd hz hf hw K hK
              have e0 : ac.eval (.tmp 44) = (.tuple #[valV F.1, .int .i64 F.2]) := hw 3 rfl
              clear hd hz hf hw
              simp only [Region.wanted, if_true, Oper.wp, execOp, resolve, List.map_toArray, List.map_cons, List.map_nil, Option.map_some, Option.map_none, e0]
              go_simp
              exact hK _ _ rfl (Same.refl _ _)
            · intro ac wc hs hd hz hf hw K hK
              have e0 : ac.eval (.tmp 40) = (.tuple #[valV F.1, .int .i64 F.2]) := hw 4 rfl
              clear hd hz hf hw
              simp only [Region.wanted, if_true, Oper.wp, execOp, resolve, List.map_toArray, List.map_cons, List.map_nil, Option.map_some, Option.map_none, e0]
              go_simp
              exact hK _ _ rfl (Same.refl _ _)
            · intro ac wc hs hd hz hf hw K hK
              have e0 : ac.eval (.tmp 40) = (.tuple #[valV F.1, .int .i64 F.2]) := hw 4 rfl
              clear hd hz hf hw
              simp only [Region.wanted, if_true, Oper.wp, execOp, resolve, List.map_toArray, List.map_cons, List.map_nil, Option.map_some, Option.map_none, e0]
              go_simp
              exact hK _ _ rfl (Same.refl _ _)
            · intro ac wc hs hd hz hf hw K hK
              clear hd hz hf hw
              simp only [Region.wanted, if_true, Oper.wp, execOp, resolve, List.map_toArray, List.map_cons, List.map_nil, Option.map_some, Option.map_none]
              go_simp
              exact hK _ _ ⟨_, rfl, hs.size, Row.new wc _ (valCs .zero)⟩ ((Same.refl _ _).alloc _)
          · intro vs wR hvl hvp hsR
            rcases vs with _ | ⟨z0, _ | ⟨z1, _ | ⟨z2, _ | ⟨z3, _ | ⟨z4, _ | ⟨z5, _ | ⟨z6, _ | ⟨z7, _ | ⟨zz, zr⟩⟩⟩⟩⟩⟩⟩⟩⟩
            rotate_right 1
            · simp at hvl
            · simp at hvl
            · simp at hvl
            · simp at hvl
            · simp at hvl
            · simp at hvl
            · simp at hvl
            · simp at hvl
            · simp at hvl
            · have htb : (.tab : SP).p z0 wR := hvp 0 (by omega)
              obtain rfl : z1 = (.slice Ar row.length cr) := hvp 1 (by omega)
              obtain rfl : z2 = (exV (.slice A e.args.length c) e) := hvp 2 (by omega)
              obtain rfl : z3 = (.tuple #[valV F.1, .int .i64 F.2]) := hvp 3 (by omega)
              obtain rfl : z4 = (.tuple #[valV F.1, .int .i64 F.2]) := hvp 4 (by omega)
              obtain rfl : z5 = (valV F.1) := hvp 5 (by omega)
              obtain rfl : z6 = (.int .i64 F.2) := hvp 6 (by omega)
              have hfr : ((.fresh W4.heap.size 23 (valCs .zero)) : SP).p z7 wR := hvp 7 (by omega)
              clear hvl hvp
              simp only [putAll, Act.put, List.setIfInBounds_toArray, List.set_cons_succ, List.set_cons_zero, List.take_succ_cons, List.take_zero, List.drop_succ_cons, List.drop_zero, List.eraseIdx_cons_succ, List.eraseIdx_cons_zero]
              obtain ⟨g, rfl, hg, hrg⟩ := hfr
              have y0 : wR.cell? ⟨g, 0, none⟩ = some (.int .i64 0) := hrg.cell 0
              have y1 : wR.cell? ⟨g, 1, none⟩ = some (.int .i64 0) := hrg.cell 1
              have y2 : wR.cell? ⟨g, 2, none⟩ = some (.string (str [])) := hrg.cell 2
              have x0 : wR.frozen? ⟨g, 0, none⟩ = false := hrg.frozen 0
              have x1 : wR.frozen? ⟨g, 1, none⟩ = false := hrg.frozen 1
              have x2 : wR.frozen? ⟨g, 2, none⟩ = false := hrg.frozen 2
              have Hrg := Lib.hid hrg
              have HsR := Lib.hid hsR
              have zG := hrg.lt
              clear hsR hrg 
              go_wp2
              go_meet
              exact ⟨_, g, rfl, rfl, rfl, hg, Hrg.out.set3 _, HsR.out.set3 (fun h => by omega) _ _ _⟩
          · intro vs wR hvl hvp hsR
            rcases vs with _ | ⟨z0, _ | ⟨z1, _ | ⟨z2, _ | ⟨z3, _ | ⟨z4, _ | ⟨z5, _ | ⟨z7, _ | ⟨zz, zr⟩⟩⟩⟩⟩⟩⟩⟩
            rotate_right 1
            · simp at hvl
            · simp at hvl
            · simp at hvl
            · simp at hvl
            · simp at hvl
            · simp at hvl
            · simp at hvl
            · simp at hvl
            · have htb : (.tab : SP).p z0 wR := hvp 0 (by omega)
              obtain rfl : z1 = (.slice Ar row.length cr) := hvp 1 (by omega)
              obtain rfl : z2 = (exV (.slice A e.args.length c) e) := hvp 2 (by omega)
              obtain rfl : z3 = (.tuple #[valV F.1, .int .i64 F.2]) := hvp 3 (by omega)
              obtain rfl : z4 = (.tuple #[valV F.1, .int .i64 F.2]) := hvp 4 (by omega)
              obtain rfl : z5 = (valV F.1) := hvp 5 (by omega)
              have hfr : ((.fresh W4.heap.size 23 (valCs .zero)) : SP).p z7 wR := hvp 6 (by omega)
              clear hvl hvp
              simp only [putAll, Act.put, List.setIfInBounds_toArray, List.set_cons_succ, List.set_cons_zero, List.take_succ_cons, List.take_zero, List.drop_succ_cons, List.drop_zero, List.eraseIdx_cons_succ, List.eraseIdx_cons_zero]
              obtain ⟨g, rfl, hg, hrg⟩ := hfr
              have y0 : wR.cell? ⟨g, 0, none⟩ = some (.int .i64 0) := hrg.cell 0
              have y1 : wR.cell? ⟨g, 1, none⟩ = some (.int .i64 0) := hrg.cell 1
              have y2 : wR.cell? ⟨g, 2, none⟩ = some (.string (str [])) := hrg.cell 2
              have x0 : wR.frozen? ⟨g, 0, none⟩ = false := hrg.frozen 0
              have x1 : wR.frozen? ⟨g, 1, none⟩ = false := hrg.frozen 1
              have x2 : wR.frozen? ⟨g, 2, none⟩ = false := hrg.frozen 2
              have Hrg := Lib.hid hrg
              have HsR := Lib.hid hsR
              have zG := hrg.lt
              clear hsR hrg 
              go_wp2
              go_meet
              exact ⟨_, g, rfl, rfl, rfl, hg, Hrg.out.set3 _, HsR.out.set3 (fun h => by omega) _ _ _⟩
        case rest =>
          obtain ⟨W5, g5, rfl, rfl, rfl, hg5, hr5, hS5⟩ := hcut
          have HS5 := Lib.hid (HS4.out.trans hS5)
          have hr4 := Hr4.out.keep hS5 trivial
          clear k0 k1 k2 k3 k4 k5 z4 hEv2 hTy2
          obtain ⟨fv, fn⟩ := F
          simp only at hr4 hr5
          have v0 : W5.cell? ⟨g4, 0, none⟩ = some (.int .i64 fv.kind) := hr4.cell 0
          have v1 : W5.cell? ⟨g4, 1, none⟩ = some (.int .i64 fv.n) := hr4.cell 1
          have v2 : W5.cell? ⟨g4, 2, none⟩ = some (.string (str fv.s)) := hr4.cell 2
          have y0 : W5.cell? ⟨g5, 0, none⟩ = some (.int .i64 fv.kind) := hr5.cell 0
          have y1 : W5.cell? ⟨g5, 1, none⟩ = some (.int .i64 fv.n) := hr5.cell 1
          have y2 : W5.cell? ⟨g5, 2, none⟩ = some (.string (str fv.s)) := hr5.cell 2
          have zg4 := hr4.lt
          have zg5 := hr5.lt
          have gP := fun W => exTrue_any fv W
          have gR := fun W => refTrue_any fv W
          obtain ⟨B, hB⟩ : ∃ B, isTrue fv = B := ⟨_, rfl⟩
          rw [hB] at gP gR
          have qv := val_runeq fv fv
          rw [show decide (fv = fv) = true from by simp] at qv
          clear hB hr4 hr5 hS5
          cases B
          · go_wp2
            refine wp_region_eq_lit (vs := [(valV fv), (valV fv), (.bool true), (.bool true), (.int .i64 fn), (.int .i64 fn), (.bool true), (.bool true), (.bool true), (valV fv), (.bool false), (valV fv), (.bool false), (.bool true), (.bool true), (.bool true)]) (by kernel_rfl) (by kernel_rfl) rfl rfl ?_ ?_
            · refine ⟨?_, ?_, ?_, ?_, ?_, ?_, ?_, ?_, ?_, ?_, ?_, ?_, ?_, ?_, ?_, ?_, trivial⟩
              · intro ac wc hs hd hz hf hw K hK
                have e0 : ac.eval (.tmp 6) = (.pointer (some ⟨g4, 0, none⟩)) := hf 6 rfl
                have m0 : wc.cell? ⟨g4, 0, none⟩ = some (.int .i64 fv.kind) := hs.cell (p := ⟨g4, 0, none⟩) trivial v0
                have m1 : wc.cell? ⟨g4, 1, none⟩ = some (.int .i64 fv.n) := hs.cell (p := ⟨g4, 1, none⟩) trivial v1
                have m2 : wc.cell? ⟨g4, 2, none⟩ = some (.string (str fv.s)) := hs.cell (p := ⟨g4, 2, none⟩) trivial v2
                clear hd hz hf hw
                simp only [Region.wanted, if_true, Oper.wp, execOp, resolve, List.map_toArray, List.map_cons, List.map_nil, Option.map_some, Option.map_none, e0]
                go_simp
                exact hK _ _ rfl (Same.refl _ _)
              · intro ac wc hs hd hz hf hw K hK
                have e0 : ac.eval (.tmp 8) = (.pointer (some ⟨g5, 0, none⟩)) := hf 8 rfl
                have m0 : wc.cell? ⟨g5, 0, none⟩ = some (.int .i64 fv.kind) := hs.cell (p := ⟨g5, 0, none⟩) trivial y0
                have m1 : wc.cell? ⟨g5, 1, none⟩ = some (.int .i64 fv.n) := hs.cell (p := ⟨g5, 1, none⟩) trivial y1
                have m2 : wc.cell? ⟨g5, 2, none⟩ = some (.string (str fv.s)) := hs.cell (p := ⟨g5, 2, none⟩) trivial y2
                clear hd hz hf hw
                simp only [Region.wanted, if_true, Oper.wp, execOp, resolve, List.map_toArray, List.map_cons, List.map_nil, Option.map_some, Option.map_none, e0]
                go_simp
                exact hK _ _ rfl (Same.refl _ _)
              · intro ac wc hs hd hz hf hw K hK
                have e0 : ac.eval (.tmp 47) = (valV fv) := hw 0 rfl
                have e1 : ac.eval (.tmp 48) = (valV fv) := hw 1 rfl
                clear hd hz hf hw
                simp only [Region.wanted, if_true, Oper.wp, execOp, resolve, List.map_toArray, List.map_cons, List.map_nil, Option.map_some, Option.map_none, e0, e1]
                go_simp
                exact hK _ _ rfl (Same.refl _ _)
              · intro ac wc hs hd hz hf hw K hK
                have e0 : ac.eval (.tmp 49) = (.bool true) := hw 2 rfl
                clear hd hz hf hw
                simp only [Region.wanted, if_true, Oper.wp, execOp, resolve, List.map_toArray, List.map_cons, List.map_nil, Option.map_some, Option.map_none, e0]
                go_simp
                exact hK _ _ rfl (Same.refl _ _)
              · intro ac wc hs hd hz hf hw K hK
                have eg : ac.eval (.tmp 50) = .bool true := hw 3 rfl
                refine run_wanted (j := 3) (d := 50) (b := true) rfl rfl hz (of_decide_eq_true rfl) eg ?_
                clear eg
                have e0 : ac.eval (.tmp 7) = (.int .i64 fn) := hf 7 rfl
                clear hd hz hf hw
                simp only [Oper.wp, execOp, resolve, List.map_toArray, List.map_cons, List.map_nil, Option.map_some, Option.map_none, e0]
                go_simp
                exact hK _ _ rfl (Same.refl _ _)
              · intro ac wc hs hd hz hf hw K hK
                have eg : ac.eval (.tmp 50) = .bool true := hw 3 rfl
                refine run_wanted (j := 3) (d := 50) (b := true) rfl rfl hz (of_decide_eq_true rfl) eg ?_
                clear eg
                have e0 : ac.eval (.tmp 9) = (.int .i64 fn) := hf 9 rfl
                clear hd hz hf hw
                simp only [Oper.wp, execOp, resolve, List.map_toArray, List.map_cons, List.map_nil, Option.map_some, Option.map_none, e0]
                go_simp
                exact hK _ _ rfl (Same.refl _ _)
              · intro ac wc hs hd hz hf hw K hK
                have eg : ac.eval (.tmp 50) = .bool true := hw 3 rfl
                refine run_wanted (j := 3) (d := 50) (b := true) rfl rfl hz (of_decide_eq_true rfl) eg ?_
                clear eg
                have e0 : ac.eval (.tmp 51) = (.int .i64 fn) := hw 4 rfl
                have e1 : ac.eval (.tmp 52) = (.int .i64 fn) := hw 5 rfl
                clear hd hz hf hw
                simp only [Oper.wp, execOp, resolve, List.map_toArray, List.map_cons, List.map_nil, Option.map_some, Option.map_none, e0, e1]
                go_simp
                exact hK _ _ rfl (Same.refl _ _)
              · intro ac wc hs hd hz hf hw K hK
                have e0 : ac.eval (.tmp 50) = (.bool true) := hw 3 rfl
                have e1 : ac.eval (.tmp 53) = (.bool true) := hw 6 rfl
                clear hd hz hf hw
                simp only [Region.wanted, if_true, Oper.wp, execOp, resolve, List.map_toArray, List.map_cons, List.map_nil, Option.map_some, Option.map_none, e0, e1]
                go_simp
                exact hK _ _ rfl (Same.refl _ _)
              · intro ac wc hs hd hz hf hw K hK
                have e0 : ac.eval (.tmp 54) = (.bool true) := hw 7 rfl
                clear hd hz hf hw
                simp only [Region.wanted, if_true, Oper.wp, execOp, resolve, List.map_toArray, List.map_cons, List.map_nil, Option.map_some, Option.map_none, e0]
                go_simp
                exact hK _ _ rfl (Same.refl _ _)
              · intro ac wc hs hd hz hf hw K hK
                have eg : ac.eval (.tmp 55) = .bool true := hw 8 rfl
                refine run_wanted (j := 8) (d := 55) (b := true) rfl rfl hz (of_decide_eq_true rfl) eg ?_
                clear eg
                have e0 : ac.eval (.tmp 6) = (.pointer (some ⟨g4, 0, none⟩)) := hf 6 rfl
                have m0 : wc.cell? ⟨g4, 0, none⟩ = some (.int .i64 fv.kind) := hs.cell (p := ⟨g4, 0, none⟩) trivial v0
                have m1 : wc.cell? ⟨g4, 1, none⟩ = some (.int .i64 fv.n) := hs.cell (p := ⟨g4, 1, none⟩) trivial v1
                have m2 : wc.cell? ⟨g4, 2, none⟩ = some (.string (str fv.s)) := hs.cell (p := ⟨g4, 2, none⟩) trivial v2
                clear hd hz hf hw
                simp only [Oper.wp, execOp, resolve, List.map_toArray, List.map_cons, List.map_nil, Option.map_some, Option.map_none, e0]
                go_simp
                exact hK _ _ rfl (Same.refl _ _)
              · intro ac wc hs hd hz hf hw K hK
                have eg : ac.eval (.tmp 55) = .bool true := hw 8 rfl
                refine run_wanted (j := 8) (d := 55) (b := true) rfl rfl hz (of_decide_eq_true rfl) eg ?_
                clear eg
                have e0 : ac.eval (.tmp 56) = (valV fv) := hw 9 rfl
                clear hd hz hf hw
                simp only [Oper.wp, execOp, resolve, List.map_toArray, List.map_cons, List.map_nil, Option.map_some, Option.map_none, e0]
                go_simp
                refine (gP _).mono ?_
                rintro e wd ⟨rfl, hs2⟩
                exact hK _ _ rfl hs2
              · intro ac wc hs hd hz hf hw K hK
                have eg : ac.eval (.tmp 55) = .bool true := hw 8 rfl
                refine run_wanted (j := 8) (d := 55) (b := true) rfl rfl hz (of_decide_eq_true rfl) eg ?_
                clear eg
                have e0 : ac.eval (.tmp 6) = (.pointer (some ⟨g4, 0, none⟩)) := hf 6 rfl
                have m0 : wc.cell? ⟨g4, 0, none⟩ = some (.int .i64 fv.kind) := hs.cell (p := ⟨g4, 0, none⟩) trivial v0
                have m1 : wc.cell? ⟨g4, 1, none⟩ = some (.int .i64 fv.n) := hs.cell (p := ⟨g4, 1, none⟩) trivial v1
                have m2 : wc.cell? ⟨g4, 2, none⟩ = some (.string (str fv.s)) := hs.cell (p := ⟨g4, 2, none⟩) trivial v2
                clear hd hz hf hw
                simp only [Oper.wp, execOp, resolve, List.map_toArray, List.map_cons, List.map_nil, Option.map_some, Option.map_none, e0]
                go_simp
                exact hK _ _ rfl (Same.refl _ _)
              · intro ac wc hs hd hz hf hw K hK
                have eg : ac.eval (.tmp 55) = .bool true := hw 8 rfl
                refine run_wanted (j := 8) (d := 55) (b := true) rfl rfl hz (of_decide_eq_true rfl) eg ?_
                clear eg
                have e0 : ac.eval (.tmp 58) = (valV fv) := hw 11 rfl
                clear hd hz hf hw
                simp only [Oper.wp, execOp, resolve, List.map_toArray, List.map_cons, List.map_nil, Option.map_some, Option.map_none, e0]
                go_simp
                refine (gR _).mono ?_
                rintro e wd ⟨rfl, hs2⟩
                exact hK _ _ rfl hs2
              · intro ac wc hs hd hz hf hw K hK
                have eg : ac.eval (.tmp 55) = .bool true := hw 8 rfl
                refine run_wanted (j := 8) (d := 55) (b := true) rfl rfl hz (of_decide_eq_true rfl) eg ?_
                clear eg
                have e0 : ac.eval (.tmp 57) = (.bool false) := hw 10 rfl
                have e1 : ac.eval (.tmp 59) = (.bool false) := hw 12 rfl
                clear hd hz hf hw
                simp only [Oper.wp, execOp, resolve, List.map_toArray, List.map_cons, List.map_nil, Option.map_some, Option.map_none, e0, e1]
                go_simp
                exact hK _ _ rfl (Same.refl _ _)
              · intro ac wc hs hd hz hf hw K hK
                have e0 : ac.eval (.tmp 55) = (.bool true) := hw 8 rfl
                have e1 : ac.eval (.tmp 60) = (.bool true) := hw 13 rfl
                clear hd hz hf hw
                simp only [Region.wanted, if_true, Oper.wp, execOp, resolve, List.map_toArray, List.map_cons, List.map_nil, Option.map_some, Option.map_none, e0, e1]
                go_simp
                exact hK _ _ rfl (Same.refl _ _)
              · intro ac wc hs hd hz hf hw K hK
                have e0 : ac.eval (.tmp 61) = (.bool true) := hw 14 rfl
                clear hd hz hf hw
                simp only [Region.wanted, if_true, Oper.wp, execOp, resolve, List.map_toArray, List.map_cons, List.map_nil, Option.map_some, Option.map_none, e0]
                go_simp
                exact hK _ _ rfl (Same.refl _ _)
            · intro wR hsR
              simp only [putAll, Act.put, List.setIfInBounds_toArray, List.set_cons_succ, List.set_cons_zero]
              go_wp2
              go_ret
              exact ⟨rfl, HS5.out.trans hsR⟩
          · go_wp2
            refine wp_region_eq_lit (vs := [(valV fv), (valV fv), (.bool true), (.bool true), (.int .i64 fn), (.int .i64 fn), (.bool true), (.bool true), (.bool true), (valV fv), (.bool true), (valV fv), (.bool true), (.bool true), (.bool true), (.bool true)]) (by kernel_rfl) (by kernel_rfl) rfl rfl ?_ ?_
            · refine ⟨?_, ?_, ?_, ?_, ?_, ?_, ?_, ?_, ?_, ?_, ?_, ?_, ?_, ?_, ?_, ?_, trivial⟩
              · intro ac wc hs hd hz hf hw K hK
                have e0 : ac.eval (.tmp 6) = (.pointer (some ⟨g4, 0, none⟩)) := hf 6 rfl
                have m0 : wc.cell? ⟨g4, 0, none⟩ = some (.int .i64 fv.kind) := hs.cell (p := ⟨g4, 0, none⟩) trivial v0
                have m1 : wc.cell? ⟨g4, 1, none⟩ = some (.int .i64 fv.n) := hs.cell (p := ⟨g4, 1, none⟩) trivial v1
                have m2 : wc.cell? ⟨g4, 2, none⟩ = some (.string (str fv.s)) := hs.cell (p := ⟨g4, 2, none⟩) trivial v2
                clear hd hz hf hw
                simp only [Region.wanted, if_true, Oper.wp, execOp, resolve, List.map_toArray, List.map_cons, List.map_nil, Option.map_some, Option.map_none, e0]
                go_simp
                exact hK _ _ rfl (Same.refl _ _)
              · intro ac wc hs hd hz hf hw K hK
                have e0 : ac.eval (.tmp 8) = (.pointer (some ⟨g5, 0, none⟩)) := hf 8 rfl
                have m0 : wc.cell? ⟨g5, 0, none⟩ = some (.int .i64 fv.kind) := hs.cell (p := ⟨g5, 0, none⟩) trivial y0
                have m1 : wc.cell? ⟨g5, 1, none⟩ = some (.int .i64 fv.n) := hs.cell (p := ⟨g5, 1, none⟩) trivial y1
                have m2 : wc.cell? ⟨g5, 2, none⟩ = some (.string (str fv.s)) := hs.cell (p := ⟨g5, 2, none⟩) trivial y2
                clear hd hz hf hw
                simp only [Region.wanted, if_true, Oper.wp, execOp, resolve, List.map_toArray, List.map_cons, List.map_nil, Option.map_some, Option.map_none, e0]
                go_simp
                exact hK _ _ rfl (Same.refl _ _)
              · intro ac wc hs hd hz hf hw K hK
                have e0 : ac.eval (.tmp 47) = (valV fv) := hw 0 rfl
                have e1 : ac.eval (.tmp 48) = (valV fv) := hw 1 rfl
                clear hd hz hf hw
                simp only [Region.wanted, if_true, Oper.wp, execOp, resolve, List.map_toArray, List.map_cons, List.map_nil, Option.map_some, Option.map_none, e0, e1]
                go_simp
                exact hK _ _ rfl (Same.refl _ _)
              · intro ac wc hs hd hz hf hw K hK
                have e0 : ac.eval (.tmp 49) = (.bool true) := hw 2 rfl
                clear hd hz hf hw
                simp only [Region.wanted, if_true, Oper.wp, execOp, resolve, List.map_toArray, List.map_cons, List.map_nil, Option.map_some, Option.map_none, e0]
                go_simp
                exact hK _ _ rfl (Same.refl _ _)
              · intro ac wc hs hd hz hf hw K hK
                have eg : ac.eval (.tmp 50) = .bool true := hw 3 rfl
                refine run_wanted (j := 3) (d := 50) (b := true) rfl rfl hz (of_decide_eq_true rfl) eg ?_
                clear eg
                have e0 : ac.eval (.tmp 7) = (.int .i64 fn) := hf 7 rfl
                clear hd hz hf hw
                simp only [Oper.wp, execOp, resolve, List.map_toArray, List.map_cons, List.map_nil, Option.map_some, Option.map_none, e0]
                go_simp
                exact hK _ _ rfl (Same.refl _ _)
              · intro ac wc hs hd hz hf hw K hK
                have eg : ac.eval (.tmp 50) = .bool true := hw 3 rfl
                refine run_wanted (j := 3) (d := 50) (b := true) rfl rfl hz (of_decide_eq_true rfl) eg ?_
                clear eg
                have e0 : ac.eval (.tmp 9) = (.int .i64 fn) := hf 9 rfl
                clear hd hz hf hw
                simp only [Oper.wp, execOp, resolve, List.map_toArray, List.map_cons, List.map_nil, Option.map_some, Option.map_none, e0]
                go_simp
                exact hK _ _ rfl (Same.refl _ _)
              · intro ac wc hs hd hz hf hw K hK
                have eg : ac.eval (.tmp 50) = .bool true := hw 3 rfl
                refine run_wanted (j := 3) (d := 50) (b := true) rfl rfl hz (of_decide_eq_true rfl) eg ?_
                clear eg
                have e0 : ac.eval (.tmp 51) = (.int .i64 fn) := hw 4 rfl
                have e1 : ac.eval (.tmp 52) = (.int .i64 fn) := hw 5 rfl
                clear hd hz hf hw
                simp only [Oper.wp, execOp, resolve, List.map_toArray, List.map_cons, List.map_nil, Option.map_some, Option.map_none, e0, e1]
                go_simp
                exact hK _ _ rfl (Same.refl _ _)
              · intro ac wc hs hd hz hf hw K hK
                have e0 : ac.eval (.tmp 50) = (.bool true) := hw 3 rfl
                have e1 : ac.eval (.tmp 53) = (.bool true) := hw 6 rfl
                clear hd hz hf hw
                simp only [Region.wanted, if_true, Oper.wp, execOp, resolve, List.map_toArray, List.map_cons, List.map_nil, Option.map_some, Option.map_none, e0, e1]
                go_simp
                exact hK _ _ rfl (Same.refl _ _)
              · intro ac wc hs hd hz hf hw K hK
                have e0 : ac.eval (.tmp 54) = (.bool true) := hw 7 rfl
                clear hd hz hf hw
                simp only [Region.wanted, if_true, Oper.wp, execOp, resolve, List.map_toArray, List.map_cons, List.map_nil, Option.map_some, Option.map_none, e0]
                go_simp
                exact hK _ _ rfl (Same.refl _ _)
              · intro ac wc hs hd hz hf hw K hK
                have eg : ac.eval (.tmp 55) = .bool true := hw 8 rfl
                refine run_wanted (j := 8) (d := 55) (b := true) rfl rfl hz (of_decide_eq_true rfl) eg ?_
                clear eg
                have e0 : ac.eval (.tmp 6) = (.pointer (some ⟨g4, 0, none⟩)) := hf 6 rfl
                have m0 : wc.cell? ⟨g4, 0, none⟩ = some (.int .i64 fv.kind) := hs.cell (p := ⟨g4, 0, none⟩) trivial v0
                have m1 : wc.cell? ⟨g4, 1, none⟩ = some (.int .i64 fv.n) := hs.cell (p := ⟨g4, 1, none⟩) trivial v1
                have m2 : wc.cell? ⟨g4, 2, none⟩ = some (.string (str fv.s)) := hs.cell (p := ⟨g4, 2, none⟩) trivial v2
                clear hd hz hf hw
                simp only [Oper.wp, execOp, resolve, List.map_toArray, List.map_cons, List.map_nil, Option.map_some, Option.map_none, e0]
                go_simp
                exact hK _ _ rfl (Same.refl _ _)
              · intro ac wc hs hd hz hf hw K hK
                have eg : ac.eval (.tmp 55) = .bool true := hw 8 rfl
                refine run_wanted (j := 8) (d := 55) (b := true) rfl rfl hz (of_decide_eq_true rfl) eg ?_
                clear eg
                have e0 : ac.eval (.tmp 56) = (valV fv) := hw 9 rfl
                clear hd hz hf hw
                simp only [Oper.wp, execOp, resolve, List.map_toArray, List.map_cons, List.map_nil, Option.map_some, Option.map_none, e0]
                go_simp
                refine (gP _).mono ?_
                rintro e wd ⟨rfl, hs2⟩
                exact hK _ _ rfl hs2
              · intro ac wc hs hd hz hf hw K hK
                have eg : ac.eval (.tmp 55) = .bool true := hw 8 rfl
                refine run_wanted (j := 8) (d := 55) (b := true) rfl rfl hz (of_decide_eq_true rfl) eg ?_
                clear eg
                have e0 : ac.eval (.tmp 6) = (.pointer (some ⟨g4, 0, none⟩)) := hf 6 rfl
                have m0 : wc.cell? ⟨g4, 0, none⟩ = some (.int .i64 fv.kind) := hs.cell (p := ⟨g4, 0, none⟩) trivial v0
                have m1 : wc.cell? ⟨g4, 1, none⟩ = some (.int .i64 fv.n) := hs.cell (p := ⟨g4, 1, none⟩) trivial v1
                have m2 : wc.cell? ⟨g4, 2, none⟩ = some (.string (str fv.s)) := hs.cell (p := ⟨g4, 2, none⟩) trivial v2
                clear hd hz hf hw
                simp only [Oper.wp, execOp, resolve, List.map_toArray, List.map_cons, List.map_nil, Option.map_some, Option.map_none, e0]
                go_simp
                exact hK _ _ rfl (Same.refl _ _)
              · intro ac wc hs hd hz hf hw K hK
                have eg : ac.eval (.tmp 55) = .bool true := hw 8 rfl
                refine run_wanted (j := 8) (d := 55) (b := true) rfl rfl hz (of_decide_eq_true rfl) eg ?_
                clear eg
                have e0 : ac.eval (.tmp 58) = (valV fv) := hw 11 rfl
                clear hd hz hf hw
                simp only [Oper.wp, execOp, resolve, List.map_toArray, List.map_cons, List.map_nil, Option.map_some, Option.map_none, e0]
                go_simp
                refine (gR _).mono ?_
                rintro e wd ⟨rfl, hs2⟩
                exact hK _ _ rfl hs2
              · intro ac wc hs hd hz hf hw K hK
                have eg : ac.eval (.tmp 55) = .bool true := hw 8 rfl
                refine run_wanted (j := 8) (d := 55) (b := true) rfl rfl hz (of_decide_eq_true rfl) eg ?_
                clear eg
                have e0 : ac.eval (.tmp 57) = (.bool true) := hw 10 rfl
                have e1 : ac.eval (.tmp 59) = (.bool true) := hw 12 rfl
                clear hd hz hf hw
                simp only [Oper.wp, execOp, resolve, List.map_toArray, List.map_cons, List.map_nil, Option.map_some, Option.map_none, e0, e1]
                go_simp
                exact hK _ _ rfl (Same.refl _ _)
              · intro ac wc hs hd hz hf hw K hK
                have e0 : ac.eval (.tmp 55) = (.bool true) := hw 8 rfl
                have e1 : ac.eval (.tmp 60) = (.bool true) := hw 13 rfl
                clear hd hz hf hw
                simp only [Region.wanted, if_true, Oper.wp, execOp, resolve, List.map_toArray, List.map_cons, List.map_nil, Option.map_some, Option.map_none, e0, e1]
                go_simp
                exact hK _ _ rfl (Same.refl _ _)
              · intro ac wc hs hd hz hf hw K hK
                have e0 : ac.eval (.tmp 61) = (.bool true) := hw 14 rfl
                clear hd hz hf hw
                simp only [Region.wanted, if_true, Oper.wp, execOp, resolve, List.map_toArray, List.map_cons, List.map_nil, Option.map_some, Option.map_none, e0]
                go_simp
                exact hK _ _ rfl (Same.refl _ _)
            · intro wR hsR
              simp only [putAll, Act.put, List.setIfInBounds_toArray, List.set_cons_succ, List.set_cons_zero]
              go_wp2
              go_ret
              exact ⟨rfl, HS5.out.trans hsR⟩
end Go.Proofs.Ytakbikibahhepaa
