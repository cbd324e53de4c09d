/-
  The walk of ExprKinds.
-/
import Derived.Test.YtakbikibahhepaaExL5
set_option linter.unusedSimpArgs false
set_option linter.unusedVariables false
namespace Go.Proofs.Ytakbikibahhepaa
open Go.RowKit

set_option maxRecDepth 100000 in
set_option maxHeartbeats 16000000 in
theorem kinds_walk (u rv : Value) (e : Ex) (row : List Val) (w : World) (hv : ExR w (fun _ => True) u e) (hrow : VaR w (fun _ => True) rv row) (hei : ExI e) (hri : ∀ x ∈ row, i64B x.n = true) :
    Calls Try.prog 9 #[exV u e, rv] w (BoolP true w) := by
  obtain ⟨A, c, rfl, hc, hm⟩ := hv.toL.form
  obtain ⟨Ar, cr, rfl, hrc, hrm⟩ := hrow.form
  unfold maxLen at hm hrm
  have hKF := kind_facts cols3 row e
  have hS0 := (Same.refl (fun _ => True) w).alloc (.cells (exCs (.slice A e.args.length c) e).toArray 26)
  have hre := Row.new w 26 (exCs (.slice A e.args.length c) e)
  have hls := light_size e 500
  have hli := fun W h => light_any (fun _ => True) e (.slice A e.args.length c) 500 W h (by omega)
  obtain ⟨L, hL⟩ : ∃ L, lightF e 500 = L := ⟨_, rfl⟩
  rw [hL] at hls hli
  have hTy : Hid (e.size ≤ 500 → ∀ W v, Same (fun _ => True) w W → TabVal W v → Calls Try.prog 13 #[v, exV (.slice A e.args.length c) e] W (NumS (typeF cols3 e) W)) := Lib.hid fun hs W v h1 h2 => exType_v v _ e W h2 (hv.keepAll h1) (by omega)
  have hEv : Hid (e.size ≤ 500 → ∀ W v, Same (fun _ => True) w W → TabVal W v → Calls Try.prog 15 #[v, .slice Ar row.length cr, exV (.slice A e.args.length c) e] W (ValEP (evalTF cols3 row e) W)) := Lib.hid fun hs W v h1 h2 => exEval_v v _ _ row e W h2 (hv.keepAll h1) (RowR.keepAll hrow h1) (by omega) hei hri
  obtain ⟨T, hT⟩ : ∃ T, typeF cols3 e = T := ⟨_, rfl⟩
  obtain ⟨F, hF⟩ : ∃ F, evalTF cols3 row e = F := ⟨_, rfl⟩
  rw [hT] at hKF hTy
  rw [hF] at hKF hEv
  have HKF := Lib.hid hKF
  have Hls := Lib.hid hls
  have HS0 := Lib.hid hS0
  have Hre := Lib.hid hre
  have Hv := Lib.hid hv
  clear hL hT hF hKF hS0 hre hls hv hrow hei hri
  go_enter Try.func9, Try.ntmps9
  go_wp2_with (go_at_call 10; refine stopAt ?_)
  unfold Hid
  refine (begun_any _).mono ?_
  rintro e' w1 ⟨rfl, hS1⟩
  have hre1 := Hre.out.keep hS1 trivial
  have k0 : w1.cell? ⟨w.heap.size, 0, none⟩ = some (.int .i64 e.kind) := hre1.cell 0
  have k1 : w1.cell? ⟨w.heap.size, 1, none⟩ = some (.string (str e.s)) := hre1.cell 1
  have k2 : w1.cell? ⟨w.heap.size, 2, none⟩ = some (.int .i64 e.v.kind) := hre1.cell 2
  have k3 : w1.cell? ⟨w.heap.size, 3, none⟩ = some (.int .i64 e.v.n) := hre1.cell 3
  have k4 : w1.cell? ⟨w.heap.size, 4, none⟩ = some (.string (str e.v.s)) := hre1.cell 4
  have k5 : w1.cell? ⟨w.heap.size, 5, none⟩ = some (.slice A e.args.length c) := hre1.cell 5
  have HS1 := Lib.hid (HS0.out.trans hS1)
  have Hre1 := Lib.hid hre1
  have z1 := hre1.lt
  have hl1 := hli w1 (Hv.out.keepAll HS1.out)
  clear hS1 hre1 hli
  by_cases hL0 : L = 0
  · subst hL0
    go_wp2_with (go_at_call 11; refine stopAt ?_)
    unfold Hid
    refine hl1.mono ?_
    rintro e' w2 ⟨rfl, hS2⟩
    have HS2 := Lib.hid hS2
    clear hS2 hl1
    go_wp2
    go_ret
    exact ⟨rfl, HS1.out.trans HS2.out⟩
  have hsz : e.size ≤ 500 := by have := Hls.out hL0; omega
  have hTy2 := Lib.hid (hTy.out hsz)
  have hEv2 := Lib.hid (hEv.out hsz)
  have bL : ((L : Int) == 0) = false := by simp; omega
  clear hL0 hsz
  go_wp2_with (go_at_call 11; refine stopAt ?_)
  unfold Hid
  refine hl1.mono ?_
  rintro e' W2 ⟨rfl, hS2⟩
  have HS2 := Lib.hid (HS1.out.trans hS2)
  have hre2 := Hre1.out.keep hS2 trivial
  have k0 : W2.cell? ⟨w.heap.size, 0, none⟩ = some (.int .i64 e.kind) := hre2.cell 0
  have k1 : W2.cell? ⟨w.heap.size, 1, none⟩ = some (.string (str e.s)) := hre2.cell 1
  have k2 : W2.cell? ⟨w.heap.size, 2, none⟩ = some (.int .i64 e.v.kind) := hre2.cell 2
  have k3 : W2.cell? ⟨w.heap.size, 3, none⟩ = some (.int .i64 e.v.n) := hre2.cell 3
  have k4 : W2.cell? ⟨w.heap.size, 4, none⟩ = some (.string (str e.v.s)) := hre2.cell 4
  have k5 : W2.cell? ⟨w.heap.size, 5, none⟩ = some (.slice A e.args.length c) := hre2.cell 5
  have z2 := hre2.lt
  have Hre2 := Lib.hid hre2
  clear hS2 hl1 hre2 z1
  by_cases hr12 : 12 < row.length
  · have x1 : (12 : Int) < (row.length : Int) := by omega
    clear hr12
    go_wp2
    go_ret
    exact ⟨rfl, HS2.out⟩
  have x1 : (row.length : Int) ≤ 12 := by omega
  clear hr12
  go_wp2
  refine wp_region_vals_lit (L := [.tab, .eq (exV (.slice A e.args.length c) e), .eq (.tuple #[.int .i64 T.1, .int .i64 T.2]), .eq (.tuple #[.int .i64 T.1, .int .i64 T.2]), .eq (.int .i64 T.1), .eq (.int .i64 T.2), .eq (.int .i64 T.1), .eq (.int .i64 T.2)]) (by kernel_rfl) (by kernel_rfl) rfl rfl ?_ ?_
  · refine ⟨?_, ?_, ?_, ?_, ?_, ?_, ?_, ?_, trivial⟩
    · intro ac wc hs hd hz hf hw K hK
      clear hd hz hf hw
      simp only [Region.wanted, if_true, Oper.wp, execOp, resolve, List.map_toArray, List.map_cons, List.map_nil, Option.map_some, Option.map_none]
      go_simp
      refine (table_any _).mono ?_
      rintro e wd ⟨vt, rfl, ht9, hs9⟩
      exact hK _ _ ht9 hs9
    · intro ac wc hs hd hz hf hw K hK
      have e0 : ac.eval (.tmp 2) = (.pointer (some ⟨w.heap.size, 0, none⟩)) := hf 2 rfl
      have m0 : wc.cell? ⟨w.heap.size, 0, none⟩ = some (.int .i64 e.kind) := hs.cell (p := ⟨w.heap.size, 0, none⟩) trivial k0
      have m1 : wc.cell? ⟨w.heap.size, 1, none⟩ = some (.string (str e.s)) := hs.cell (p := ⟨w.heap.size, 1, none⟩) trivial k1
      have m2 : wc.cell? ⟨w.heap.size, 2, none⟩ = some (.int .i64 e.v.kind) := hs.cell (p := ⟨w.heap.size, 2, none⟩) trivial k2
      have m3 : wc.cell? ⟨w.heap.size, 3, none⟩ = some (.int .i64 e.v.n) := hs.cell (p := ⟨w.heap.size, 3, none⟩) trivial k3
      have m4 : wc.cell? ⟨w.heap.size, 4, none⟩ = some (.string (str e.v.s)) := hs.cell (p := ⟨w.heap.size, 4, none⟩) trivial k4
      have m5 : wc.cell? ⟨w.heap.size, 5, none⟩ = some (.slice A e.args.length c) := hs.cell (p := ⟨w.heap.size, 5, none⟩) trivial k5
      clear hd hz hf hw
      simp only [Region.wanted, if_true, Oper.wp, execOp, resolve, List.map_toArray, List.map_cons, List.map_nil, Option.map_some, Option.map_none, e0]
      go_simp
      exact hK _ _ rfl (Same.refl _ _)
    · intro ac wc hs hd hz hf hw K hK
      have p0 : (.tab : SP).p (ac.eval (.tmp 20)) wc := hw 0 rfl
      obtain ⟨u0, e0⟩ : ∃ u, ac.eval (.tmp 20) = u := ⟨_, rfl⟩
      rw [e0] at p0
      have e1 : ac.eval (.tmp 21) = (exV (.slice A e.args.length c) e) := hw 1 rfl
      clear hd hz hf hw
      simp only [Region.wanted, if_true, Oper.wp, execOp, resolve, List.map_toArray, List.map_cons, List.map_nil, Option.map_some, Option.map_none, e0, e1]
      go_simp
      refine (hTy2.out _ _ (HS2.out.trans hs) p0).mono ?_
      rintro e wd ⟨rfl, hs2⟩
      exact hK _ _ rfl hs2
    · intro ac wc hs hd hz hf hw K hK
      have e0 : ac.eval (.tmp 22) = (.tuple #[.int .i64 T.1, .int .i64 T.2]) := hw 2 rfl
      clear hd hz hf hw
      simp only [Region.wanted, if_true, Oper.wp, execOp, resolve, List.map_toArray, List.map_cons, List.map_nil, Option.map_some, Option.map_none, e0]
      go_simp
      exact hK _ _ rfl (Same.refl _ _)
    · intro ac wc hs hd hz hf hw K hK
      have e0 : ac.eval (.tmp 19) = (.tuple #[.int .i64 T.1, .int .i64 T.2]) := hw 3 rfl
      clear hd hz hf hw
      simp only [Region.wanted, if_true, Oper.wp, execOp, resolve, List.map_toArray, List.map_cons, List.map_nil, Option.map_some, Option.map_none, e0]
      go_simp
      exact hK _ _ rfl (Same.refl _ _)
    · intro ac wc hs hd hz hf hw K hK
      have e0 : ac.eval (.tmp 19) = (.tuple #[.int .i64 T.1, .int .i64 T.2]) := hw 3 rfl
      clear hd hz hf hw
      simp only [Region.wanted, if_true, Oper.wp, execOp, resolve, List.map_toArray, List.map_cons, List.map_nil, Option.map_some, Option.map_none, e0]
      go_simp
      exact hK _ _ rfl (Same.refl _ _)
    · intro ac wc hs hd hz hf hw K hK
      have e0 : ac.eval (.tmp 23) = (.int .i64 T.1) := hw 4 rfl
      clear hd hz hf hw
      simp only [Region.wanted, if_true, Oper.wp, execOp, resolve, List.map_toArray, List.map_cons, List.map_nil, Option.map_some, Option.map_none, e0]
      go_simp
      exact hK _ _ rfl (Same.refl _ _)
    · intro ac wc hs hd hz hf hw K hK
      have e0 : ac.eval (.tmp 24) = (.int .i64 T.2) := hw 5 rfl
      clear hd hz hf hw
      simp only [Region.wanted, if_true, Oper.wp, execOp, resolve, List.map_toArray, List.map_cons, List.map_nil, Option.map_some, Option.map_none, e0]
      go_simp
      exact hK _ _ rfl (Same.refl _ _)
  · intro vs W3 hvl hvp hS3
    rcases vs with _ | ⟨z0, _ | ⟨z1, _ | ⟨z2, _ | ⟨z3, _ | ⟨z4, _ | ⟨z5, _ | ⟨z6, _ | ⟨z7, _ | ⟨zz, zr⟩⟩⟩⟩⟩⟩⟩⟩⟩
    rotate_right 1
    · simp at hvl
    · simp at hvl
    · simp at hvl
    · simp at hvl
    · simp at hvl
    · simp at hvl
    · simp at hvl
    · simp at hvl
    · simp at hvl
    · have htb : (.tab : SP).p z0 W3 := hvp 0 (by simp) (by simp)
      obtain rfl : z1 = (exV (.slice A e.args.length c) e) := hvp 1 (by simp) (by simp)
      obtain rfl : z2 = (.tuple #[.int .i64 T.1, .int .i64 T.2]) := hvp 2 (by simp) (by simp)
      obtain rfl : z3 = (.tuple #[.int .i64 T.1, .int .i64 T.2]) := hvp 3 (by simp) (by simp)
      obtain rfl : z4 = (.int .i64 T.1) := hvp 4 (by simp) (by simp)
      obtain rfl : z5 = (.int .i64 T.2) := hvp 5 (by simp) (by simp)
      obtain rfl : z6 = (.int .i64 T.1) := hvp 6 (by simp) (by simp)
      obtain rfl : z7 = (.int .i64 T.2) := hvp 7 (by simp) (by simp)
      clear hvl hvp
      simp only [putAll, Act.put, List.setIfInBounds_toArray, List.set_cons_succ, List.set_cons_zero]
      have HS3 := Lib.hid (HS2.out.trans hS3)
      have hre3 := Hre2.out.keep hS3 trivial
      clear k0 k1 k2 k3 k4 k5 z2 hS3 htb
      have k0 : W3.cell? ⟨w.heap.size, 0, none⟩ = some (.int .i64 e.kind) := hre3.cell 0
      have k1 : W3.cell? ⟨w.heap.size, 1, none⟩ = some (.string (str e.s)) := hre3.cell 1
      have k2 : W3.cell? ⟨w.heap.size, 2, none⟩ = some (.int .i64 e.v.kind) := hre3.cell 2
      have k3 : W3.cell? ⟨w.heap.size, 3, none⟩ = some (.int .i64 e.v.n) := hre3.cell 3
      have k4 : W3.cell? ⟨w.heap.size, 4, none⟩ = some (.string (str e.v.s)) := hre3.cell 4
      have k5 : W3.cell? ⟨w.heap.size, 5, none⟩ = some (.slice A e.args.length c) := hre3.cell 5
      have z3 := hre3.lt
      clear hre3
      go_wp2
      go_upto_region 6 with (fail)
      go_cut [7, 8] from 25 to 31 (fun vA vB wx => ∃ (W4 : World) (g : Nat), W4 = wx ∧ vA = .pointer (some ⟨g, 0, none⟩) ∧ vB = .int .i64 F.2 ∧ W3.heap.size ≤ g ∧ Row W4 g 23 (valCs F.1) ∧ Same (fun _ => True) W3 W4)
      case first =>
        refine wp_region_tail_d (L := [.of .tab, .eq (.slice Ar row.length cr), .eq (exV (.slice A e.args.length c) e), .eq (.tuple #[valV F.1, .int .i64 F.2]), .eq (.tuple #[valV F.1, .int .i64 F.2]), .eq (valV F.1), .eq (.int .i64 F.2), .of (.fresh W3.heap.size 23 (valCs .zero))]) 8 6 (by omega) (by kernel_rfl) (by kernel_rfl) rfl rfl rfl rfl rfl rfl ?_ ?_ ?_
        · refine ⟨?_, ?_, ?_, ?_, ?_, ?_, ?_, ?_, trivial⟩
          · intro ac wc hs hd hz hf hw K hK
            clear hd hz hf hw
            simp only [Region.wanted, if_true, Oper.wp, execOp, resolve, List.map_toArray, List.map_cons, List.map_nil, Option.map_some, Option.map_none]
            go_simp
            refine (table_any _).mono ?_
            rintro e wd ⟨vt, rfl, ht9, hs9⟩
            exact hK _ _ ht9 hs9
          · intro ac wc hs hd hz hf hw K hK
            have e0 : ac.eval (.tmp 1) = (.slice Ar row.length cr) := hf 1 rfl
            clear hd hz hf hw
            simp only [Region.wanted, if_true, Oper.wp, execOp, resolve, List.map_toArray, List.map_cons, List.map_nil, Option.map_some, Option.map_none, e0]
            go_simp
            exact hK _ _ rfl (Same.refl _ _)
          · intro ac wc hs hd hz hf hw K hK
            have e0 : ac.eval (.tmp 2) = (.pointer (some ⟨w.heap.size, 0, none⟩)) := hf 2 rfl
            have m0 : wc.cell? ⟨w.heap.size, 0, none⟩ = some (.int .i64 e.kind) := hs.cell (p := ⟨w.heap.size, 0, none⟩) trivial k0
            have m1 : wc.cell? ⟨w.heap.size, 1, none⟩ = some (.string (str e.s)) := hs.cell (p := ⟨w.heap.size, 1, none⟩) trivial k1
            have m2 : wc.cell? ⟨w.heap.size, 2, none⟩ = some (.int .i64 e.v.kind) := hs.cell (p := ⟨w.heap.size, 2, none⟩) trivial k2
            have m3 : wc.cell? ⟨w.heap.size, 3, none⟩ = some (.int .i64 e.v.n) := hs.cell (p := ⟨w.heap.size, 3, none⟩) trivial k3
            have m4 : wc.cell? ⟨w.heap.size, 4, none⟩ = some (.string (str e.v.s)) := hs.cell (p := ⟨w.heap.size, 4, none⟩) trivial k4
            have m5 : wc.cell? ⟨w.heap.size, 5, none⟩ = some (.slice A e.args.length c) := hs.cell (p := ⟨w.heap.size, 5, none⟩) trivial k5
            clear hd hz hf hw
            simp only [Region.wanted, if_true, Oper.wp, execOp, resolve, List.map_toArray, List.map_cons, List.map_nil, Option.map_some, Option.map_none, e0]
            go_simp
            exact hK _ _ rfl (Same.refl _ _)
          · intro ac wc hs hd hz hf hw K hK
            have p0 : (.tab : SP).p (ac.eval (.tmp 26)) wc := hw 0 rfl
            obtain ⟨u0, e0⟩ : ∃ u, ac.eval (.tmp 26) = u := ⟨_, rfl⟩
            rw [e0] at p0
            have e1 : ac.eval (.tmp 27) = (.slice Ar row.length cr) := hw 1 rfl
            have e2 : ac.eval (.tmp 28) = (exV (.slice A e.args.length c) e) := hw 2 rfl
            clear hd hz hf hw
            simp only [Region.wanted, if_true, Oper.wp, execOp, resolve, List.map_toArray, List.map_cons, List.map_nil, Option.map_some, Option.map_none, e0, e1, e2]
            go_simp
            refine (hEv2.out _ _ (HS3.out.trans hs) p0).mono ?_
            rintro e wd ⟨rfl, hs2⟩
            exact hK _ _ rfl hs2
          · intro ac wc hs hd hz hf hw K hK
            have e0 : ac.eval (.tmp 29) = (.tuple #[valV F.1, .int .i64 F.2]) := hw 3 rfl
            clear hd hz hf hw
            simp only [Region.wanted, if_true, Oper.wp, execOp, resolve, List.map_toArray, List.map_cons, List.map_nil, Option.map_some, Option.map_none, e0]
            go_simp
            exact hK _ _ rfl (Same.refl _ _)
          · intro ac wc hs hd hz hf hw K hK
            have e0 : ac.eval (.tmp 25) = (.tuple #[valV F.1, .int .i64 F.2]) := hw 4 rfl
            clear hd hz hf hw
            simp only [Region.wanted, if_true, Oper.wp, execOp, resolve, List.map_toArray, List.map_cons, List.map_nil, Option.map_some, Option.map_none, e0]
            go_simp
            exact hK _ _ rfl (Same.refl _ _)
          · intro ac wc hs hd hz hf hw K hK
            have e0 : ac.eval (.tmp 25) = (.tuple #[valV F.1, .int .i64 F.2]) := hw 4 rfl
            clear hd hz hf hw
            simp only [Region.wanted, if_true, Oper.wp, execOp, resolve, List.map_toArray, List.map_cons, List.map_nil, Option.map_some, Option.map_none, e0]
            go_simp
            exact hK _ _ rfl (Same.refl _ _)
          · intro ac wc hs hd hz hf hw K hK
            clear hd hz hf hw
            simp only [Region.wanted, if_true, Oper.wp, execOp, resolve, List.map_toArray, List.map_cons, List.map_nil, Option.map_some, Option.map_none]
            go_simp
            exact hK _ _ ⟨_, rfl, hs.size, Row.new wc _ (valCs .zero)⟩ ((Same.refl _ _).alloc _)
        · intro vs wR hvl hvp hsR
          rcases vs with _ | ⟨z0, _ | ⟨z1, _ | ⟨z2, _ | ⟨z3, _ | ⟨z4, _ | ⟨z5, _ | ⟨z6, _ | ⟨z7, _ | ⟨zz, zr⟩⟩⟩⟩⟩⟩⟩⟩⟩
          rotate_right 1
          · simp at hvl
          · simp at hvl
          · simp at hvl
          · simp at hvl
          · simp at hvl
          · simp at hvl
          · simp at hvl
          · simp at hvl
          · simp at hvl
          · have htb : (.tab : SP).p z0 wR := hvp 0 (by omega)
            obtain rfl : z1 = (.slice Ar row.length cr) := hvp 1 (by omega)
            obtain rfl : z2 = (exV (.slice A e.args.length c) e) := hvp 2 (by omega)
            obtain rfl : z3 = (.tuple #[valV F.1, .int .i64 F.2]) := hvp 3 (by omega)
            obtain rfl : z4 = (.tuple #[valV F.1, .int .i64 F.2]) := hvp 4 (by omega)
            obtain rfl : z5 = (valV F.1) := hvp 5 (by omega)
            obtain rfl : z6 = (.int .i64 F.2) := hvp 6 (by omega)
            have hfr : ((.fresh W3.heap.size 23 (valCs .zero)) : SP).p z7 wR := hvp 7 (by omega)
            clear hvl hvp
            simp only [putAll, Act.put, List.setIfInBounds_toArray, List.set_cons_succ, List.set_cons_zero, List.take_succ_cons, List.take_zero, List.drop_succ_cons, List.drop_zero, List.eraseIdx_cons_succ, List.eraseIdx_cons_zero]
            obtain ⟨g, rfl, hg, hrg⟩ := hfr
            have y0 : wR.cell? ⟨g, 0, none⟩ = some (.int .i64 0) := hrg.cell 0
            have y1 : wR.cell? ⟨g, 1, none⟩ = some (.int .i64 0) := hrg.cell 1
            have y2 : wR.cell? ⟨g, 2, none⟩ = some (.string (str [])) := hrg.cell 2
            have x0 : wR.frozen? ⟨g, 0, none⟩ = false := hrg.frozen 0
            have x1 : wR.frozen? ⟨g, 1, none⟩ = false := hrg.frozen 1
            have x2 : wR.frozen? ⟨g, 2, none⟩ = false := hrg.frozen 2
            have Hrg := Lib.hid hrg
            have HsR := Lib.hid hsR
            have zG := hrg.lt
            clear hsR hrg 
            go_wp2
            go_meet
            exact ⟨_, g, rfl, rfl, rfl, hg, Hrg.out.set3 _, HsR.out.set3 (fun h => by omega) _ _ _⟩
        · intro vs wR hvl hvp hsR
          rcases vs with _ | ⟨z0, _ | ⟨z1, _ | ⟨z2, _ | ⟨z3, _ | ⟨z4, _ | ⟨z5, _ | ⟨z7, _ | ⟨zz, zr⟩⟩⟩⟩⟩⟩⟩⟩
          rotate_right 1
          · simp at hvl
          · simp at hvl
          · simp at hvl
          · simp at hvl
          · simp at hvl
          · simp at hvl
          · simp at hvl
          · simp at hvl
          · have htb : (.tab : SP).p z0 wR := hvp 0 (by omega)
            obtain rfl : z1 = (.slice Ar row.length cr) := hvp 1 (by omega)
            obtain rfl : z2 = (exV (.slice A e.args.length c) e) := hvp 2 (by omega)
            obtain rfl : z3 = (.tuple #[valV F.1, .int .i64 F.2]) := hvp 3 (by omega)
            obtain rfl : z4 = (.tuple #[valV F.1, .int .i64 F.2]) := hvp 4 (by omega)
            obtain rfl : z5 = (valV F.1) := hvp 5 (by omega)
            have hfr : ((.fresh W3.heap.size 23 (valCs .zero)) : SP).p z7 wR := hvp 6 (by omega)
            clear hvl hvp
            simp only [putAll, Act.put, List.setIfInBounds_toArray, List.set_cons_succ, List.set_cons_zero, List.take_succ_cons, List.take_zero, List.drop_succ_cons, List.drop_zero, List.eraseIdx_cons_succ, List.eraseIdx_cons_zero]
            obtain ⟨g, rfl, hg, hrg⟩ := hfr
            have y0 : wR.cell? ⟨g, 0, none⟩ = some (.int .i64 0) := hrg.cell 0
            have y1 : wR.cell? ⟨g, 1, none⟩ = some (.int .i64 0) := hrg.cell 1
            have y2 : wR.cell? ⟨g, 2, none⟩ = some (.string (str [])) := hrg.cell 2
            have x0 : wR.frozen? ⟨g, 0, none⟩ = false := hrg.frozen 0
            have x1 : wR.frozen? ⟨g, 1, none⟩ = false := hrg.frozen 1
            have x2 : wR.frozen? ⟨g, 2, none⟩ = false := hrg.frozen 2
            have Hrg := Lib.hid hrg
            have HsR := Lib.hid hsR
            have zG := hrg.lt
            clear hsR hrg 
            go_wp2
            go_meet
            exact ⟨_, g, rfl, rfl, rfl, hg, Hrg.out.set3 _, HsR.out.set3 (fun h => by omega) _ _ _⟩
      case rest =>
        obtain ⟨W4, g4, rfl, rfl, rfl, hg4, hr4, hS4⟩ := hcut
        have HS4 := Lib.hid (HS3.out.trans hS4)
        have Hr4 := Lib.hid hr4
        have zg := hr4.lt
        obtain ⟨hA, hB⟩ := HKF.out
        obtain ⟨tk, te⟩ := T
        obtain ⟨fv, fn⟩ := F
        simp only at hA hB Hr4
        clear hr4 hS4 k0 k1 k2 k3 k4 k5 z3 HKF hTy hEv hTy2 hEv2
        by_cases h0 : te = 0
        · have b0 : (te != 0) = false := by simpa using h0
          rcases hB h0 with ⟨h1, h2⟩ | ⟨h1, h2⟩
          · have b1 : (fn == 0) = true := by simpa using h1
            have q1 : (fv.kind == tk) = decide (fv.kind = tk) := rfl
            have q2 : (fv.kind == 0) = decide (fv.kind = 0) := rfl
            have v0 : W4.cell? ⟨g4, 0, none⟩ = some (.int .i64 fv.kind) := Hr4.out.cell 0
            have v1 : W4.cell? ⟨g4, 1, none⟩ = some (.int .i64 fv.n) := Hr4.out.cell 1
            have v2 : W4.cell? ⟨g4, 2, none⟩ = some (.string (str fv.s)) := Hr4.out.cell 2
            by_cases h3 : fv.kind = tk
            · rw [show decide (fv.kind = tk) = true from by simpa using h3] at q1
              clear hA hB h0 h1 h2 h3
              go_wp2
              go_ret
              exact ⟨rfl, HS4.out⟩
            · have h4 : fv.kind = 0 := h2.resolve_left h3
              rw [show decide (fv.kind = tk) = false from by simpa using h3] at q1
              rw [show decide (fv.kind = 0) = true from by simpa using h4] at q2
              clear hA hB h0 h1 h2 h3 h4
              go_wp2
              go_ret
              exact ⟨rfl, HS4.out⟩
          · subst h1
            have v0 : W4.cell? ⟨g4, 0, none⟩ = some (.int .i64 0) := Hr4.out.cell 0
            have v1 : W4.cell? ⟨g4, 1, none⟩ = some (.int .i64 0) := Hr4.out.cell 1
            have v2 : W4.cell? ⟨g4, 2, none⟩ = some (.string (str [])) := Hr4.out.cell 2
            have q1 : ((0 : Int) == tk) = decide ((0 : Int) = tk) := rfl
            obtain ⟨B, hB2⟩ : ∃ B, decide ((0 : Int) = tk) = B := ⟨_, rfl⟩
            rw [hB2] at q1
            clear hA hB h0 hB2
            rcases h2 with rfl | rfl | rfl
            all_goals
              cases B
              all_goals
                go_wp2
                go_ret
                exact ⟨rfl, HS4.out⟩
        · obtain ⟨h1, h2, h3⟩ := hA h0
          subst h1 h2 h3
          have b0 : (fn != 0) = true := by simpa using h0
          have v0 : W4.cell? ⟨g4, 0, none⟩ = some (.int .i64 0) := Hr4.out.cell 0
          have v1 : W4.cell? ⟨g4, 1, none⟩ = some (.int .i64 0) := Hr4.out.cell 1
          have v2 : W4.cell? ⟨g4, 2, none⟩ = some (.string (str [])) := Hr4.out.cell 2
          clear hA hB h0
          go_wp2
          go_ret
          exact ⟨rfl, HS4.out⟩
end Go.Proofs.Ytakbikibahhepaa
