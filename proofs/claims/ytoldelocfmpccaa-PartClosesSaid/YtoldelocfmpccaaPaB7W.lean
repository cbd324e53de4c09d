/-
  PartCloses: for all commands, what is closed and has no lock within a span is told the same ever after: the walk.
-/
import Derived.Test.YtoldelocfmpccaaS9
import Derived.Test.YtoldelocfmpccaaS8
import Derived.Test.YtoldelocfmpccaaS7
import Derived.Test.YtoldelocfmpccaaS6
import Derived.Test.YtoldelocfmpccaaS5
import Derived.Test.YtoldelocfmpccaaS4
import Derived.Test.YtoldelocfmpccaaS3
import Derived.Test.YtoldelocfmpccaaS2
import Derived.Test.YtoldelocfmpccaaS14
import Derived.Test.YtoldelocfmpccaaS13
import Derived.Test.YtoldelocfmpccaaS12
import Derived.Test.YtoldelocfmpccaaS11
import Derived.Test.YtoldelocfmpccaaS10
import Derived.Test.YtoldelocfmpccaaS1
import Derived.Test.YtoldelocfmpccaaU1
set_option linter.unusedSimpArgs false
set_option linter.unusedVariables false
namespace Go.Proofs.Ytoldelocfmpccaa
open Go.RowKit
theorem pair_ne (x : List UInt8 × List UInt8) (w : World) : (binOp .neq 60 (.agg #[.string (str x.1), .string (str x.2)]) (.agg #[.string (str x.1), .string (str x.2)])).run Try.prog w = .ok (.bool false) w := by
  go_simp
set_option maxRecDepth 100000 in
set_option maxHeartbeats 8000000 in
theorem closes_walk (v : Value) (l : List CmdM) (at_ wall : Int) (lo hi : List UInt8) (w : World) (hv : CmdR w (fun k => k < w.heap.size) v l) (hat : -9223372036854775808 ≤ at_ ∧ at_ ≤ 9223372036854775807) (hxk : lo.length ≤ maxLen) (hxd : hi.length ≤ maxLen) :
    Calls Try.prog 14 #[v, .int .i64 at_, .int .i64 wall, .agg #[.string (str lo), .string (str hi)]] w fun e w' => e = .returned (.bool true) ∧ Same (fun _ => True) w w' := by
  obtain ⟨A, cl, rfl, hlc, hlm⟩ := hv.form
  have Hv := Lib.hid hv
  unfold maxLen at hlm
  clear hv
  unfold maxLen at hxk hxd
  have r0 := Row.new w 53 (pairCs (lo, hi))
  have hS0 := (Same.refl (fun _ => True) w).alloc (.cells (pairCs (lo, hi)).toArray 53)
  have B0 := Lib.hid r0
  have HS := Lib.hid hS0
  clear hS0 r0
  go_enter Try.func14, Try.ntmps14
  go_wp2_with (go_at_call 38; refine stopAt ?_)
  unfold Hid
  refine (begunp_any _).mono ?_
  rintro e w1 ⟨rfl, hS1⟩
  have B0 := Lib.hid (B0.out.keep hS1 trivial)
  have HS := Lib.hid (HS.out.trans hS1)
  clear hS1
  go_wp2_with (go_at_call 39; refine stopAt ?_)
  unfold Hid
  refine (lightk_any (.slice A l.length cl) l 50 _ w1 (Hv.out.keepAll HS.out) (by omega)).mono ?_
  rintro e w2 ⟨bl, rfl, hbl, hS1⟩
  have B0 := Lib.hid (B0.out.keep hS1 trivial)
  have HS := Lib.hid (HS.out.trans hS1)
  clear hS1
  cases bl
  · clear hbl
    go_wp2
    go_ret
    exact ⟨rfl, HS.out⟩
  obtain ⟨hlen, hlw⟩ := hbl rfl
  clear hbl
  have Hlw := Lib.hid hlw
  clear hlw
  have r_ := B0.out
  have k0 := r_.cell 0
  have k1 := r_.cell 1
  simp only [partCs, cmdCs, repCs, tryCs, stCs, wrCs, lckCs, celCs, pairCs, List.getElem?_cons_zero, List.getElem?_cons_succ] at k0 k1
  clear r_
  have s1 : (str lo).size = lo.length := str_size _
  have s2 : (str hi).size = hi.length := str_size _
  by_cases hb1 : 200 < (lo.length : Int)
  · go_wp2
    go_ret
    exact ⟨rfl, HS.out⟩
  by_cases hb2 : 200 < (hi.length : Int)
  · go_wp2
    go_ret
    exact ⟨rfl, HS.out⟩
  go_wp2_with (go_at_call 51; refine stopAt ?_)
  unfold Hid
  refine (run_any (.slice A l.length cl) l _ w2 (Hv.out.keepAll HS.out) (by omega) Hlw.out).mono ?_
  rintro e w3 ⟨va, rfl, hps, hS1⟩
  obtain ⟨Ap, cap, rfl, hp1, hp2⟩ := hps.form
  rw [states_len] at hps hp1 ⊢
  have HPS := Lib.hid hps
  have hS1s := hS1.size
  have B0 := Lib.hid (B0.out.keep hS1 trivial)
  have HS := Lib.hid (HS.out.trans hS1)
  clear hS1 hps
  unfold maxLen at hp2
  clear hS1s k0 k1 s1 s2 hb1 hb2
  have n1 : (((l.length + 1 : Nat) : Int) == 0) = false := by simp; omega
  have q1 := Int.lt_tmod_of_pos at_ (b := (l.length : Int) + 1) (by omega)
  have q2 := Int.tmod_lt_of_pos at_ (b := (l.length : Int) + 1) (by omega)
  have HZ0 := Lib.hid B0.out.lt
  obtain ⟨BW, hBW⟩ : ∃ BW, BW = w.heap.size := ⟨_, rfl⟩
  have HBW := Lib.hid hBW
  clear hBW
  have g0 := Row.new w3 28 (stCs ⟨wall, 4611686018427387904⟩)
  have gS := (Same.refl (fun _ => True) w3).alloc (.cells (stCs ⟨wall, 4611686018427387904⟩).toArray 28)
  have B1 := Lib.hid g0
  have B2 := Lib.hid gS
  clear g0 gS
  go_wp2
  have g0 := B1.out
  have gS := B2.out
  clear B1 B2
  simp only [stCs] at g0 gS
  revert g0 gS
  generalize w3.alloc _ = w4
  intro g0 gS
  have HT0 := Lib.hid g0
  have HS3 := Lib.hid gS
  clear g0 gS
  obtain ⟨a, ha⟩ : ∃ a : St, a = ⟨wall, 4611686018427387904⟩ := ⟨_, rfl⟩
  have HT := Lib.hid (show Row w4 w3.heap.size 28 (stCs a) by rw [ha]; exact HT0.out)
  have Haw := Lib.hid (show a.wall = wall by rw [ha])
  have Hat := Lib.hid (show 0 ≤ a.tie by rw [ha]; show (0 : Int) ≤ 4611686018427387904; omega)
  clear ha HT0
  have B0 := Lib.hid (B0.out.keep HS3.out trivial)
  have HPS := Lib.hid (HPS.out.keepAll HS3.out)
  have HS := Lib.hid (HS.out.trans HS3.out)
  clear HS3
  obtain ⟨j, hj⟩ : ∃ j : Nat, (at_.tmod ((l.length : Int) + 1) + ((l.length : Int) + 1)) % ((l.length : Int) + 1) = (j : Int) := ⟨_, (Int.toNat_of_nonneg (Int.emod_nonneg _ (by omega))).symm⟩
  have hjl : j < l.length + 1 := by
    have := Int.emod_lt_of_pos (at_.tmod ((l.length : Int) + 1) + ((l.length : Int) + 1)) (b := (l.length : Int) + 1) (by omega)
    rw [hj] at this
    omega
  rw [hj]
  have Hwz := Lib.hid (show w.heap.size < w3.heap.size ∧ w3.heap.size < w4.heap.size from ⟨HZ0.out, HT.out.lt⟩)
  clear hj q1 q2 n1
  obtain ⟨ap, vc, vr, vd, hap, hown, p0, hps0⟩ := PartsO.at_ HPS.out (i := j) (by rw [states_len]; omega)
  have Hfin := Lib.hid (fine_run Hlw.out j (by omega))
  rw [states_at] at hown p0 hps0
  obtain ⟨p, hp⟩ : ∃ p, runP (l.take j) = p := ⟨_, rfl⟩
  rw [hp] at hown p0 hps0 Hfin
  have Hp := Lib.hid hp
  obtain ⟨P0, p0_, rfl, hq1, hq2⟩ := hown.cells.form
  obtain ⟨P1, p1_, rfl, hq3, hq4⟩ := OwnR.form hown.recs
  obtain ⟨P2, p2_, rfl, hq5, hq6⟩ := OwnR.form hown.done
  unfold maxLen at hq2 hq4 hq6
  have p4 := hps0 4 (by omega) (by omega)
  have p5 := hps0 5 (by omega) (by omega)
  have p6 := hps0 6 (by omega) (by omega)
  simp only [partCs, List.getElem?_cons_zero, List.getElem?_cons_succ] at p4 p5 p6
  have HO := Lib.hid hown.reads.cells
  subst hap
  clear hp hps0 hown p0
  have x1 : (0 : Int) ≤ (j : Int) := by omega
  have x2 : (j : Int) < (l.length : Int) + 1 := by omega
  have x3 : j < l.length + 1 := by omega
  have x4 : j ≤ l.length := by omega
  have x5 : (j : Int) < ((l.length + 1 : Nat) : Int) := by omega
  have x6 : (j : Int) ≤ (l.length : Int) := by omega
  have r_ := B0.out
  have k0 := r_.cell 0
  have k1 := r_.cell 1
  simp only [partCs, cmdCs, repCs, tryCs, stCs, wrCs, lckCs, celCs, pairCs, List.getElem?_cons_zero, List.getElem?_cons_succ] at k0 k1
  clear r_
  have r_ := HT.out
  have t0 := r_.cell 0
  have t1 := r_.cell 1
  simp only [partCs, cmdCs, repCs, tryCs, stCs, wrCs, lckCs, celCs, pairCs, List.getElem?_cons_zero, List.getElem?_cons_succ] at t0 t1
  clear r_
  obtain ⟨lk, bb, hbl⟩ : ∃ x y, blocksF p.cells lo hi a = (x, y) := ⟨_, _, rfl⟩
  have gb := fun W (hW : Same (fun _ => True) w4 W) => refblocks_any (.slice P0 p.cells.length p0_) p.cells lo hi a _ W (HO.out.keepAll hW)
  rw [hbl] at gb
  have Hbl := Lib.hid hbl
  clear hbl
  go_cut [11, 12] from 52 to 62 (fun v11 v12 wx => v12 = .bool bb ∧ Same (fun _ => True) w4 wx)
  case first =>
    refine wp_region_tail_d (L := [.eq (.slice (some ap) (l.length + 1) cap), .eq (.int .i64 j), .eq (.pointer (some (ap.add (j * 9)))), .eq (.pointer (some ⟨(ap.add (j * 9)).block, (ap.add (j * 9)).off + 6, none⟩)), .eq (.slice P0 p.cells.length p0_), .eq (.agg #[.string (str lo), .string (str hi)]), .eq (stV a), .eq (.tuple #[lckV lk, .bool bb]), .eq (.tuple #[lckV lk, .bool bb]), .eq (lckV lk), .eq (.bool bb), .of ⟨fun v w => ∃ g, v = .pointer (some ⟨g, 0, none⟩) ∧ w4.heap.size ≤ g ∧ Row w g 30 (lckCs Lck.zero), fun _ _ _ ⟨g, h1, h2, h3⟩ k => ⟨g, h1, h2, h3.keep k trivial⟩⟩]) 12 10 (by omega) (by kernel_rfl) (by kernel_rfl) rfl rfl rfl rfl rfl rfl ?_ ?_ ?_
    · refine ⟨?_, ?_, ?_, ?_, ?_, ?_, ?_, ?_, ?_, ?_, ?_, ?_, trivial⟩
      · intro ac wc hs hd hz hf hw K hK
        have e0 : ac.eval (.tmp 9) = (.slice (some ap) (l.length + 1) cap) := hf 9 rfl
        clear hd hz hf hw
        simp only [Region.wanted, if_true, Oper.wp, execOp, resolve, List.map_toArray, List.map_cons, List.map_nil, Option.map_some, Option.map_none, e0]
        go_simp
        exact hK _ _ rfl (Same.refl _ _)
      · intro ac wc hs hd hz hf hw K hK
        have e0 : ac.eval (.tmp 1) = (.int .i64 j) := hf 1 rfl
        clear hd hz hf hw
        simp only [Region.wanted, if_true, Oper.wp, execOp, resolve, List.map_toArray, List.map_cons, List.map_nil, Option.map_some, Option.map_none, e0]
        go_simp
        exact hK _ _ rfl (Same.refl _ _)
      · intro ac wc hs hd hz hf hw K hK
        have e0 : ac.eval (.tmp 53) = (.slice (some ap) (l.length + 1) cap) := hw 0 rfl
        have e1 : ac.eval (.tmp 54) = (.int .i64 j) := hw 1 rfl
        clear hd hz hf hw
        simp only [Region.wanted, if_true, Oper.wp, execOp, resolve, List.map_toArray, List.map_cons, List.map_nil, Option.map_some, Option.map_none, e0, e1]
        go_simp
        exact hK _ _ rfl (Same.refl _ _)
      · intro ac wc hs hd hz hf hw K hK
        have e0 : ac.eval (.tmp 55) = (.pointer (some (ap.add (j * 9)))) := hw 2 rfl
        clear hd hz hf hw
        simp only [Region.wanted, if_true, Oper.wp, execOp, resolve, List.map_toArray, List.map_cons, List.map_nil, Option.map_some, Option.map_none, e0]
        go_simp
        exact hK _ _ rfl (Same.refl _ _)
      · intro ac wc hs hd hz hf hw K hK
        have e0 : ac.eval (.tmp 56) = (.pointer (some ⟨(ap.add (j * 9)).block, (ap.add (j * 9)).off + 6, none⟩)) := hw 3 rfl
        have m0 : wc.cell? ⟨(ap.add (j * 9)).block, (ap.add (j * 9)).off + 6, none⟩ = some (.slice P0 p.cells.length p0_) := hs.cell (p := ⟨(ap.add (j * 9)).block, (ap.add (j * 9)).off + 6, none⟩) trivial p6
        clear hd hz hf hw
        simp only [Region.wanted, if_true, Oper.wp, execOp, resolve, List.map_toArray, List.map_cons, List.map_nil, Option.map_some, Option.map_none, e0]
        go_simp
        exact hK _ _ rfl (Same.refl _ _)
      · intro ac wc hs hd hz hf hw K hK
        have e0 : ac.eval (.tmp 7) = (.pointer (some ⟨w.heap.size, 0, none⟩)) := hf 7 rfl
        have m0 : wc.cell? ⟨w.heap.size, 0, none⟩ = some (.string (str lo)) := hs.cell (p := ⟨w.heap.size, 0, none⟩) trivial k0
        have m1 : wc.cell? ⟨w.heap.size, 1, none⟩ = some (.string (str hi)) := hs.cell (p := ⟨w.heap.size, 1, none⟩) trivial k1
        clear hd hz hf hw
        simp only [Region.wanted, if_true, Oper.wp, execOp, resolve, List.map_toArray, List.map_cons, List.map_nil, Option.map_some, Option.map_none, e0]
        go_simp
        exact hK _ _ rfl (Same.refl _ _)
      · intro ac wc hs hd hz hf hw K hK
        have e0 : ac.eval (.tmp 10) = (.pointer (some ⟨w3.heap.size, 0, none⟩)) := hf 10 rfl
        have m0 : wc.cell? ⟨w3.heap.size, 0, none⟩ = some (.int .i64 a.wall) := hs.cell (p := ⟨w3.heap.size, 0, none⟩) trivial t0
        have m1 : wc.cell? ⟨w3.heap.size, 1, none⟩ = some (.int .i64 a.tie) := hs.cell (p := ⟨w3.heap.size, 1, none⟩) trivial t1
        clear hd hz hf hw
        simp only [Region.wanted, if_true, Oper.wp, execOp, resolve, List.map_toArray, List.map_cons, List.map_nil, Option.map_some, Option.map_none, e0]
        go_simp
        exact hK _ _ rfl (Same.refl _ _)
      · intro ac wc hs hd hz hf hw K hK
        have e0 : ac.eval (.tmp 57) = (.slice P0 p.cells.length p0_) := hw 4 rfl
        have e1 : ac.eval (.tmp 58) = (.agg #[.string (str lo), .string (str hi)]) := hw 5 rfl
        have e2 : ac.eval (.tmp 59) = (stV a) := hw 6 rfl
        clear hd hz hf hw
        simp only [Region.wanted, if_true, Oper.wp, execOp, resolve, List.map_toArray, List.map_cons, List.map_nil, Option.map_some, Option.map_none, e0, e1, e2]
        go_simp
        refine (gb wc hs).mono ?_
        rintro e wd ⟨rfl, hs2⟩
        exact hK _ _ rfl hs2
      · intro ac wc hs hd hz hf hw K hK
        have e0 : ac.eval (.tmp 60) = (.tuple #[lckV lk, .bool bb]) := hw 7 rfl
        clear hd hz hf hw
        simp only [Region.wanted, if_true, Oper.wp, execOp, resolve, List.map_toArray, List.map_cons, List.map_nil, Option.map_some, Option.map_none, e0]
        go_simp
        exact hK _ _ rfl (Same.refl _ _)
      · intro ac wc hs hd hz hf hw K hK
        have e0 : ac.eval (.tmp 52) = (.tuple #[lckV lk, .bool bb]) := hw 8 rfl
        clear hd hz hf hw
        simp only [Region.wanted, if_true, Oper.wp, execOp, resolve, List.map_toArray, List.map_cons, List.map_nil, Option.map_some, Option.map_none, e0]
        go_simp
        exact hK _ _ rfl (Same.refl _ _)
      · intro ac wc hs hd hz hf hw K hK
        have e0 : ac.eval (.tmp 52) = (.tuple #[lckV lk, .bool bb]) := hw 8 rfl
        clear hd hz hf hw
        simp only [Region.wanted, if_true, Oper.wp, execOp, resolve, List.map_toArray, List.map_cons, List.map_nil, Option.map_some, Option.map_none, e0]
        go_simp
        exact hK _ _ rfl (Same.refl _ _)
      · intro ac wc hs hd hz hf hw K hK
        clear hd hz hf hw
        simp only [Region.wanted, if_true, Oper.wp, execOp, resolve, List.map_toArray, List.map_cons, List.map_nil, Option.map_some, Option.map_none]
        go_simp
        exact hK _ _ ⟨_, rfl, hs.size, Row.new _ _ (lckCs Lck.zero)⟩ ((Same.refl _ _).alloc _)
    · intro vs wR hvl hvp hsR
      rcases vs with _ | ⟨z0, _ | ⟨z1, _ | ⟨z2, _ | ⟨z3, _ | ⟨z4, _ | ⟨z5, _ | ⟨z6, _ | ⟨z7, _ | ⟨z8, _ | ⟨z9, _ | ⟨z10, _ | ⟨z11, _ | ⟨zz, zr⟩⟩⟩⟩⟩⟩⟩⟩⟩⟩⟩⟩⟩
      rotate_right 1
      · simp at hvl
      · simp at hvl
      · simp at hvl
      · simp at hvl
      · simp at hvl
      · simp at hvl
      · simp at hvl
      · simp at hvl
      · simp at hvl
      · simp at hvl
      · simp at hvl
      · simp at hvl
      · simp at hvl
      · obtain rfl : z0 = (.slice (some ap) (l.length + 1) cap) := hvp 0 (by omega)
        obtain rfl : z1 = (.int .i64 j) := hvp 1 (by omega)
        obtain rfl : z2 = (.pointer (some (ap.add (j * 9)))) := hvp 2 (by omega)
        obtain rfl : z3 = (.pointer (some ⟨(ap.add (j * 9)).block, (ap.add (j * 9)).off + 6, none⟩)) := hvp 3 (by omega)
        obtain rfl : z4 = (.slice P0 p.cells.length p0_) := hvp 4 (by omega)
        obtain rfl : z5 = (.agg #[.string (str lo), .string (str hi)]) := hvp 5 (by omega)
        obtain rfl : z6 = (stV a) := hvp 6 (by omega)
        obtain rfl : z7 = (.tuple #[lckV lk, .bool bb]) := hvp 7 (by omega)
        obtain rfl : z8 = (.tuple #[lckV lk, .bool bb]) := hvp 8 (by omega)
        obtain rfl : z9 = (lckV lk) := hvp 9 (by omega)
        obtain rfl : z10 = (.bool bb) := hvp 10 (by omega)
        have hxl : (⟨fun v w => ∃ g, v = .pointer (some ⟨g, 0, none⟩) ∧ w4.heap.size ≤ g ∧ Row w g 30 (lckCs Lck.zero), fun _ _ _ ⟨g, h1, h2, h3⟩ k => ⟨g, h1, h2, h3.keep k trivial⟩⟩ : SP).p z11 wR := hvp 11 (by omega)
        clear hvl hvp
        simp only [putAll, Act.put, List.setIfInBounds_toArray, List.set_cons_succ, List.set_cons_zero, List.take_succ_cons, List.take_zero, List.drop_succ_cons, List.drop_zero, List.eraseIdx_cons_succ, List.eraseIdx_cons_zero]
        obtain ⟨g9, rfl, hg9, r9⟩ := hxl
        have z9 := r9.lt
        have R9 := Lib.hid r9
        have l0 := r9.cell 0
        have l1 := r9.cell 1
        have l2 := r9.cell 2
        have l3 := r9.cell 3
        have l4 := r9.cell 4
        have l5 := r9.cell 5
        have l6 := r9.cell 6
        have l7 := r9.cell 7
        have l8 := r9.cell 8
        simp only [lckCs, Lck.zero, List.getElem?_cons_zero, List.getElem?_cons_succ] at l0 l1 l2 l3 l4 l5 l6 l7 l8
        have h0 := r9.frozen 0
        have h1 := r9.frozen 1
        have h2 := r9.frozen 2
        have h3 := r9.frozen 3
        have h4 := r9.frozen 4
        have h5 := r9.frozen 5
        have h6 := r9.frozen 6
        have h7 := r9.frozen 7
        have h8 := r9.frozen 8
        clear r9
        go_wp2
        go_meet
        exact ⟨rfl, Same.sets' (by omega) (lckCs lk) 0 hsR⟩
    · intro vs wR hvl hvp hsR
      rcases vs with _ | ⟨z0, _ | ⟨z1, _ | ⟨z2, _ | ⟨z3, _ | ⟨z4, _ | ⟨z5, _ | ⟨z6, _ | ⟨z7, _ | ⟨z8, _ | ⟨z9, _ | ⟨z11, _ | ⟨zz, zr⟩⟩⟩⟩⟩⟩⟩⟩⟩⟩⟩⟩
      rotate_right 1
      · simp at hvl
      · simp at hvl
      · simp at hvl
      · simp at hvl
      · simp at hvl
      · simp at hvl
      · simp at hvl
      · simp at hvl
      · simp at hvl
      · simp at hvl
      · simp at hvl
      · simp at hvl
      · obtain rfl : z0 = (.slice (some ap) (l.length + 1) cap) := hvp 0 (by omega)
        obtain rfl : z1 = (.int .i64 j) := hvp 1 (by omega)
        obtain rfl : z2 = (.pointer (some (ap.add (j * 9)))) := hvp 2 (by omega)
        obtain rfl : z3 = (.pointer (some ⟨(ap.add (j * 9)).block, (ap.add (j * 9)).off + 6, none⟩)) := hvp 3 (by omega)
        obtain rfl : z4 = (.slice P0 p.cells.length p0_) := hvp 4 (by omega)
        obtain rfl : z5 = (.agg #[.string (str lo), .string (str hi)]) := hvp 5 (by omega)
        obtain rfl : z6 = (stV a) := hvp 6 (by omega)
        obtain rfl : z7 = (.tuple #[lckV lk, .bool bb]) := hvp 7 (by omega)
        obtain rfl : z8 = (.tuple #[lckV lk, .bool bb]) := hvp 8 (by omega)
        obtain rfl : z9 = (lckV lk) := hvp 9 (by omega)
        have hxl : (⟨fun v w => ∃ g, v = .pointer (some ⟨g, 0, none⟩) ∧ w4.heap.size ≤ g ∧ Row w g 30 (lckCs Lck.zero), fun _ _ _ ⟨g, h1, h2, h3⟩ k => ⟨g, h1, h2, h3.keep k trivial⟩⟩ : SP).p z11 wR := hvp 10 (by omega)
        clear hvl hvp
        simp only [putAll, Act.put, List.setIfInBounds_toArray, List.set_cons_succ, List.set_cons_zero, List.take_succ_cons, List.take_zero, List.drop_succ_cons, List.drop_zero, List.eraseIdx_cons_succ, List.eraseIdx_cons_zero]
        obtain ⟨g9, rfl, hg9, r9⟩ := hxl
        have z9 := r9.lt
        have R9 := Lib.hid r9
        have l0 := r9.cell 0
        have l1 := r9.cell 1
        have l2 := r9.cell 2
        have l3 := r9.cell 3
        have l4 := r9.cell 4
        have l5 := r9.cell 5
        have l6 := r9.cell 6
        have l7 := r9.cell 7
        have l8 := r9.cell 8
        simp only [lckCs, Lck.zero, List.getElem?_cons_zero, List.getElem?_cons_succ] at l0 l1 l2 l3 l4 l5 l6 l7 l8
        have h0 := r9.frozen 0
        have h1 := r9.frozen 1
        have h2 := r9.frozen 2
        have h3 := r9.frozen 3
        have h4 := r9.frozen 4
        have h5 := r9.frozen 5
        have h6 := r9.frozen 6
        have h7 := r9.frozen 7
        have h8 := r9.frozen 8
        clear r9
        go_wp2
        go_meet
        exact ⟨rfl, Same.sets' (by omega) (lckCs lk) 0 hsR⟩
  case rest =>
    obtain ⟨rfl, hS1⟩ := hcut
    have B0 := Lib.hid (B0.out.keep hS1 trivial)
    have HT := Lib.hid (HT.out.keep hS1 trivial)
    have HS := Lib.hid (HS.out.trans hS1)
    have HPS := Lib.hid (HPS.out.keepAll hS1)
    have p4 := hS1.cell (p := ⟨(ap.add (j * 9)).block, (ap.add (j * 9)).off + 4, none⟩) trivial p4
    have p5 := hS1.cell (p := ⟨(ap.add (j * 9)).block, (ap.add (j * 9)).off + 5, none⟩) trivial p5
    have p6 := hS1.cell (p := ⟨(ap.add (j * 9)).block, (ap.add (j * 9)).off + 6, none⟩) trivial p6
    have HO := Lib.hid (HO.out.keepAll hS1)
    clear hS1 gb
    clear k0 k1
    clear t0 t1
    go_upto_region 9 with (fail)
    go_cut [85] from 63 to 84 (fun v85 wx => ∃ b : Bool, v85 = .bool b ∧ (b = false → bb = false ∧ wall ≤ p.closed ∧ p.low ≤ wall) ∧ Same (fun _ => True) wc wx)
    case first =>
      cases bb
      · by_cases h1 : p.closed < wall
        · go_wp2
          go_meet
          exact ⟨true, rfl, (fun h => by cases h), Same.refl _ _⟩
        · by_cases h2 : wall < p.low
          · go_wp2
            go_meet
            exact ⟨true, rfl, (fun h => by cases h), Same.refl _ _⟩
          · have Hh := Lib.hid (show wall ≤ p.closed ∧ p.low ≤ wall by omega)
            go_wp2_with (go_at_call 55; refine stopAt ?_)
            unfold Hid
            refine (ties_any (.slice A l.length cl) l _ _ (Hv.out.keepAll HS.out)).mono ?_
            rintro e w9 ⟨b, rfl, hS9⟩
            have HS9 := Lib.hid hS9
            clear hS9 p4 p5 p6
            go_wp2
            go_meet
            exact ⟨b, rfl, fun _ => ⟨by first | rfl | trivial, Hh.out⟩, HS9.out⟩
      · go_wp2
        go_meet
        exact ⟨true, rfl, (fun h => by cases h), Same.refl _ _⟩
    case rest =>
      obtain ⟨b, rfl, hbq, hS1⟩ := hcut
      have Hbq := Lib.hid hbq
      have B0 := Lib.hid (B0.out.keep hS1 trivial)
      have HT := Lib.hid (HT.out.keep hS1 trivial)
      have HS := Lib.hid (HS.out.trans hS1)
      have HPS := Lib.hid (HPS.out.keepAll hS1)
      have p4 := hS1.cell (p := ⟨(ap.add (j * 9)).block, (ap.add (j * 9)).off + 4, none⟩) trivial p4
      have p5 := hS1.cell (p := ⟨(ap.add (j * 9)).block, (ap.add (j * 9)).off + 5, none⟩) trivial p5
      have p6 := hS1.cell (p := ⟨(ap.add (j * 9)).block, (ap.add (j * 9)).off + 6, none⟩) trivial p6
      have HO := Lib.hid (HO.out.keepAll hS1)
      clear hS1 hbq
      cases b
      case true =>
        go_wp2
        go_ret
        exact ⟨rfl, HS.out⟩
      obtain ⟨hbb, hcl, hlo⟩ := Hbq.out rfl
      have Hcl := Lib.hid hcl
      have Hqt := Lib.hid (show Quiet a lo hi p.cells from (quiet_iff a lo hi p.cells).1 (by rw [Hbl.out]; exact hbb))
      clear hbb hcl hlo Hbq Hbl
      have hbw : BW ≤ wc.heap.size := by rw [HBW.out]; exact HS.out.size
      obtain ⟨L, hL⟩ : ∃ L, L = pairsF a (withinF p.cells lo hi) := ⟨_, rfl⟩
      have gc := fun W (hW : Same (fun _ => True) wc W) => refscan_any (.slice P0 p.cells.length p0_) p.cells lo hi a 10000 _ W (HO.out.keepAll hW) (by have := Hfin.out.cells.len (by omega); omega)
      rw [scan_all (by have := Hfin.out.cells.few.1; omega), ← hL] at gc
      have HL := Lib.hid hL
      clear hL
      have r_ := B0.out
      have k0 := r_.cell 0
      have k1 := r_.cell 1
      simp only [partCs, cmdCs, repCs, tryCs, stCs, wrCs, lckCs, celCs, pairCs, List.getElem?_cons_zero, List.getElem?_cons_succ] at k0 k1
      clear r_
      have r_ := HT.out
      have t0 := r_.cell 0
      have t1 := r_.cell 1
      simp only [partCs, cmdCs, repCs, tryCs, stCs, wrCs, lckCs, celCs, pairCs, List.getElem?_cons_zero, List.getElem?_cons_succ] at t0 t1
      clear r_
      go_upto_region 11 with (fail)
      go_cut [13, 14] from 86 to 96 (fun v13 v14 wx => OwnP wx BW v13 L ∧ Same (fun _ => True) wc wx)
      case first =>
        refine wp_region_tail_d (L := [.eq (.slice (some ap) (l.length + 1) cap), .eq (.int .i64 j), .eq (.pointer (some (ap.add (j * 9)))), .eq (.pointer (some ⟨(ap.add (j * 9)).block, (ap.add (j * 9)).off + 6, none⟩)), .eq (.slice P0 p.cells.length p0_), .eq (.agg #[.string (str lo), .string (str hi)]), .eq (stV a), .of ⟨fun v w => ∃ u, v = .tuple #[u, .int .i64 0] ∧ OwnP w BW u L, fun _ _ _ ⟨u, h1, h2⟩ k => ⟨u, h1, h2.keepAll k⟩⟩, .of ⟨fun v w => ∃ u, v = .tuple #[u, .int .i64 0] ∧ OwnP w BW u L, fun _ _ _ ⟨u, h1, h2⟩ k => ⟨u, h1, h2.keepAll k⟩⟩, .of ⟨fun u w => OwnP w BW u L, fun _ _ _ h k => h.keepAll k⟩, .eq (.int .i64 0)]) 11 10 (by omega) (by kernel_rfl) (by kernel_rfl) rfl rfl rfl rfl rfl rfl ?_ ?_ ?_
        · refine ⟨?_, ?_, ?_, ?_, ?_, ?_, ?_, ?_, ?_, ?_, ?_, trivial⟩
          · intro ac wc hs hd hz hf hw K hK
            have e0 : ac.eval (.tmp 9) = (.slice (some ap) (l.length + 1) cap) := hf 9 rfl
            clear hd hz hf hw
            simp only [Region.wanted, if_true, Oper.wp, execOp, resolve, List.map_toArray, List.map_cons, List.map_nil, Option.map_some, Option.map_none, e0]
            go_simp
            exact hK _ _ rfl (Same.refl _ _)
          · intro ac wc hs hd hz hf hw K hK
            have e0 : ac.eval (.tmp 1) = (.int .i64 j) := hf 1 rfl
            clear hd hz hf hw
            simp only [Region.wanted, if_true, Oper.wp, execOp, resolve, List.map_toArray, List.map_cons, List.map_nil, Option.map_some, Option.map_none, e0]
            go_simp
            exact hK _ _ rfl (Same.refl _ _)
          · intro ac wc hs hd hz hf hw K hK
            have e0 : ac.eval (.tmp 87) = (.slice (some ap) (l.length + 1) cap) := hw 0 rfl
            have e1 : ac.eval (.tmp 88) = (.int .i64 j) := hw 1 rfl
            clear hd hz hf hw
            simp only [Region.wanted, if_true, Oper.wp, execOp, resolve, List.map_toArray, List.map_cons, List.map_nil, Option.map_some, Option.map_none, e0, e1]
            go_simp
            exact hK _ _ rfl (Same.refl _ _)
          · intro ac wc hs hd hz hf hw K hK
            have e0 : ac.eval (.tmp 89) = (.pointer (some (ap.add (j * 9)))) := hw 2 rfl
            clear hd hz hf hw
            simp only [Region.wanted, if_true, Oper.wp, execOp, resolve, List.map_toArray, List.map_cons, List.map_nil, Option.map_some, Option.map_none, e0]
            go_simp
            exact hK _ _ rfl (Same.refl _ _)
          · intro ac wc hs hd hz hf hw K hK
            have e0 : ac.eval (.tmp 90) = (.pointer (some ⟨(ap.add (j * 9)).block, (ap.add (j * 9)).off + 6, none⟩)) := hw 3 rfl
            have m0 : wc.cell? ⟨(ap.add (j * 9)).block, (ap.add (j * 9)).off + 6, none⟩ = some (.slice P0 p.cells.length p0_) := hs.cell (p := ⟨(ap.add (j * 9)).block, (ap.add (j * 9)).off + 6, none⟩) trivial p6
            clear hd hz hf hw
            simp only [Region.wanted, if_true, Oper.wp, execOp, resolve, List.map_toArray, List.map_cons, List.map_nil, Option.map_some, Option.map_none, e0]
            go_simp
            exact hK _ _ rfl (Same.refl _ _)
          · intro ac wc hs hd hz hf hw K hK
            have e0 : ac.eval (.tmp 7) = (.pointer (some ⟨w.heap.size, 0, none⟩)) := hf 7 rfl
            have m0 : wc.cell? ⟨w.heap.size, 0, none⟩ = some (.string (str lo)) := hs.cell (p := ⟨w.heap.size, 0, none⟩) trivial k0
            have m1 : wc.cell? ⟨w.heap.size, 1, none⟩ = some (.string (str hi)) := hs.cell (p := ⟨w.heap.size, 1, none⟩) trivial k1
            clear hd hz hf hw
            simp only [Region.wanted, if_true, Oper.wp, execOp, resolve, List.map_toArray, List.map_cons, List.map_nil, Option.map_some, Option.map_none, e0]
            go_simp
            exact hK _ _ rfl (Same.refl _ _)
          · intro ac wc hs hd hz hf hw K hK
            have e0 : ac.eval (.tmp 10) = (.pointer (some ⟨w3.heap.size, 0, none⟩)) := hf 10 rfl
            have m0 : wc.cell? ⟨w3.heap.size, 0, none⟩ = some (.int .i64 a.wall) := hs.cell (p := ⟨w3.heap.size, 0, none⟩) trivial t0
            have m1 : wc.cell? ⟨w3.heap.size, 1, none⟩ = some (.int .i64 a.tie) := hs.cell (p := ⟨w3.heap.size, 1, none⟩) trivial t1
            clear hd hz hf hw
            simp only [Region.wanted, if_true, Oper.wp, execOp, resolve, List.map_toArray, List.map_cons, List.map_nil, Option.map_some, Option.map_none, e0]
            go_simp
            exact hK _ _ rfl (Same.refl _ _)
          · intro ac wc hs hd hz hf hw K hK
            have e0 : ac.eval (.tmp 91) = (.slice P0 p.cells.length p0_) := hw 4 rfl
            have e1 : ac.eval (.tmp 92) = (.agg #[.string (str lo), .string (str hi)]) := hw 5 rfl
            have e2 : ac.eval (.tmp 93) = (stV a) := hw 6 rfl
            clear hd hz hf hw
            simp only [Region.wanted, if_true, Oper.wp, execOp, resolve, List.map_toArray, List.map_cons, List.map_nil, Option.map_some, Option.map_none, e0, e1, e2]
            go_simp
            refine (gc wc hs).mono ?_
            rintro e wd ⟨u, rfl, hown, hS⟩
            exact hK _ _ ⟨u, rfl, hown.lower (by have := hs.size; omega)⟩ hS
          · intro ac wc hs hd hz hf hw K hK
            have p0 : (⟨fun v w => ∃ u, v = .tuple #[u, .int .i64 0] ∧ OwnP w BW u L, fun _ _ _ ⟨u, h1, h2⟩ k => ⟨u, h1, h2.keepAll k⟩⟩ : SP).p (ac.eval (.tmp 94)) wc := hw 7 rfl
            obtain ⟨u0, e0⟩ : ∃ u, ac.eval (.tmp 94) = u := ⟨_, rfl⟩
            rw [e0] at p0
            clear hd hz hf hw
            simp only [Region.wanted, if_true, Oper.wp, execOp, resolve, List.map_toArray, List.map_cons, List.map_nil, Option.map_some, Option.map_none, e0]
            go_simp
            exact hK _ _ p0 (Same.refl _ _)
          · intro ac wc hs hd hz hf hw K hK
            have p0 : (⟨fun v w => ∃ u, v = .tuple #[u, .int .i64 0] ∧ OwnP w BW u L, fun _ _ _ ⟨u, h1, h2⟩ k => ⟨u, h1, h2.keepAll k⟩⟩ : SP).p (ac.eval (.tmp 86)) wc := hw 8 rfl
            obtain ⟨u0, e0⟩ : ∃ u, ac.eval (.tmp 86) = u := ⟨_, rfl⟩
            rw [e0] at p0
            clear hd hz hf hw
            simp only [Region.wanted, if_true, Oper.wp, execOp, resolve, List.map_toArray, List.map_cons, List.map_nil, Option.map_some, Option.map_none, e0]
            go_simp
            obtain ⟨u, e, hu⟩ := p0
            subst e
            go_simp
            exact hK _ _ hu (Same.refl _ _)
          · intro ac wc hs hd hz hf hw K hK
            have p0 : (⟨fun v w => ∃ u, v = .tuple #[u, .int .i64 0] ∧ OwnP w BW u L, fun _ _ _ ⟨u, h1, h2⟩ k => ⟨u, h1, h2.keepAll k⟩⟩ : SP).p (ac.eval (.tmp 86)) wc := hw 8 rfl
            obtain ⟨u0, e0⟩ : ∃ u, ac.eval (.tmp 86) = u := ⟨_, rfl⟩
            rw [e0] at p0
            clear hd hz hf hw
            simp only [Region.wanted, if_true, Oper.wp, execOp, resolve, List.map_toArray, List.map_cons, List.map_nil, Option.map_some, Option.map_none, e0]
            go_simp
            obtain ⟨u, e, hu⟩ := p0
            subst e
            go_simp
            exact hK _ _ rfl (Same.refl _ _)
        · intro vs wR hvl hvp hsR
          rcases vs with _ | ⟨z0, _ | ⟨z1, _ | ⟨z2, _ | ⟨z3, _ | ⟨z4, _ | ⟨z5, _ | ⟨z6, _ | ⟨z7, _ | ⟨z8, _ | ⟨z9, _ | ⟨z10, _ | ⟨zz, zr⟩⟩⟩⟩⟩⟩⟩⟩⟩⟩⟩⟩
          rotate_right 1
          · simp at hvl
          · simp at hvl
          · simp at hvl
          · simp at hvl
          · simp at hvl
          · simp at hvl
          · simp at hvl
          · simp at hvl
          · simp at hvl
          · simp at hvl
          · simp at hvl
          · simp at hvl
          · obtain rfl : z0 = (.slice (some ap) (l.length + 1) cap) := hvp 0 (by omega)
            obtain rfl : z1 = (.int .i64 j) := hvp 1 (by omega)
            obtain rfl : z2 = (.pointer (some (ap.add (j * 9)))) := hvp 2 (by omega)
            obtain rfl : z3 = (.pointer (some ⟨(ap.add (j * 9)).block, (ap.add (j * 9)).off + 6, none⟩)) := hvp 3 (by omega)
            obtain rfl : z4 = (.slice P0 p.cells.length p0_) := hvp 4 (by omega)
            obtain rfl : z5 = (.agg #[.string (str lo), .string (str hi)]) := hvp 5 (by omega)
            obtain rfl : z6 = (stV a) := hvp 6 (by omega)
            have ht7 : (⟨fun v w => ∃ u, v = .tuple #[u, .int .i64 0] ∧ OwnP w BW u L, fun _ _ _ ⟨u, h1, h2⟩ k => ⟨u, h1, h2.keepAll k⟩⟩ : SP).p z7 wR := hvp 7 (by omega)
            have ht8 : (⟨fun v w => ∃ u, v = .tuple #[u, .int .i64 0] ∧ OwnP w BW u L, fun _ _ _ ⟨u, h1, h2⟩ k => ⟨u, h1, h2.keepAll k⟩⟩ : SP).p z8 wR := hvp 8 (by omega)
            have ht9 : (⟨fun u w => OwnP w BW u L, fun _ _ _ h k => h.keepAll k⟩ : SP).p z9 wR := hvp 9 (by omega)
            obtain rfl : z10 = (.int .i64 0) := hvp 10 (by omega)
            clear hvl hvp
            simp only [putAll, Act.put, List.setIfInBounds_toArray, List.set_cons_succ, List.set_cons_zero, List.take_succ_cons, List.take_zero, List.drop_succ_cons, List.drop_zero, List.eraseIdx_cons_succ, List.eraseIdx_cons_zero]
            obtain ⟨u8, rfl, hu8⟩ := ht8
            go_wp2
            go_meet
            exact ⟨ht9, hsR⟩
        · intro vs wR hvl hvp hsR
          rcases vs with _ | ⟨z0, _ | ⟨z1, _ | ⟨z2, _ | ⟨z3, _ | ⟨z4, _ | ⟨z5, _ | ⟨z6, _ | ⟨z7, _ | ⟨z8, _ | ⟨z9, _ | ⟨zz, zr⟩⟩⟩⟩⟩⟩⟩⟩⟩⟩⟩
          rotate_right 1
          · simp at hvl
          · simp at hvl
          · simp at hvl
          · simp at hvl
          · simp at hvl
          · simp at hvl
          · simp at hvl
          · simp at hvl
          · simp at hvl
          · simp at hvl
          · simp at hvl
          · obtain rfl : z0 = (.slice (some ap) (l.length + 1) cap) := hvp 0 (by omega)
            obtain rfl : z1 = (.int .i64 j) := hvp 1 (by omega)
            obtain rfl : z2 = (.pointer (some (ap.add (j * 9)))) := hvp 2 (by omega)
            obtain rfl : z3 = (.pointer (some ⟨(ap.add (j * 9)).block, (ap.add (j * 9)).off + 6, none⟩)) := hvp 3 (by omega)
            obtain rfl : z4 = (.slice P0 p.cells.length p0_) := hvp 4 (by omega)
            obtain rfl : z5 = (.agg #[.string (str lo), .string (str hi)]) := hvp 5 (by omega)
            obtain rfl : z6 = (stV a) := hvp 6 (by omega)
            have ht7 : (⟨fun v w => ∃ u, v = .tuple #[u, .int .i64 0] ∧ OwnP w BW u L, fun _ _ _ ⟨u, h1, h2⟩ k => ⟨u, h1, h2.keepAll k⟩⟩ : SP).p z7 wR := hvp 7 (by omega)
            have ht8 : (⟨fun v w => ∃ u, v = .tuple #[u, .int .i64 0] ∧ OwnP w BW u L, fun _ _ _ ⟨u, h1, h2⟩ k => ⟨u, h1, h2.keepAll k⟩⟩ : SP).p z8 wR := hvp 8 (by omega)
            have ht9 : (⟨fun u w => OwnP w BW u L, fun _ _ _ h k => h.keepAll k⟩ : SP).p z9 wR := hvp 9 (by omega)
            clear hvl hvp
            simp only [putAll, Act.put, List.setIfInBounds_toArray, List.set_cons_succ, List.set_cons_zero, List.take_succ_cons, List.take_zero, List.drop_succ_cons, List.drop_zero, List.eraseIdx_cons_succ, List.eraseIdx_cons_zero]
            obtain ⟨u8, rfl, hu8⟩ := ht8
            go_wp2
            go_meet
            exact ⟨ht9, hsR⟩
      case rest =>
        obtain ⟨hown, hS1⟩ := hcut
        obtain ⟨A3, c3_, rfl, hb3, hb4⟩ := OwnP.form hown
        unfold maxLen at hb4
        have HWT := Lib.hid hown
        have B0 := Lib.hid (B0.out.keep hS1 trivial)
        have HT := Lib.hid (HT.out.keep hS1 trivial)
        have HS := Lib.hid (HS.out.trans hS1)
        have HPS := Lib.hid (HPS.out.keepAll hS1)
        clear hown hS1 hbw p4 p5 p6 gc HO x1 x2 x3 x4 x5 x6 hq1 hq2 hq3 hq4 hq5 hq6
        clear k0 k1
        clear t0 t1
        have Hsh := Lib.hid (shut_run (l := l) Hlw.out (a := a) (lo := lo) (hi := hi) (j := j) (by omega) Hat.out (by rw [Hp.out]; exact Hqt.out) (by rw [Hp.out, Haw.out]; exact Hcl.out))
        rw [Hp.out, ← HL.out] at Hsh
        clear Hqt Hcl Hfin Hp HL
        go_wp2
        obtain ⟨wo, rfl⟩ : ∃ wo : World, wo = wc := ⟨_, rfl⟩
        go_loopw [15] (fun v wr => ∃ i : Nat, v = .int .i64 i ∧ j ≤ i ∧ i ≤ l.length + 1 ∧ Same (fun _ => True) wo wr) (fun v _ => l.length + 1 - (intOf v).toNat)
        case atStart => exact ⟨j, rfl, Nat.le_refl _, by omega, Same.refl _ _⟩
        case round =>
          obtain ⟨i, rfl, hji, hile, hS1⟩ := hrel
          have B0 := Lib.hid (B0.out.keep hS1 trivial)
          have HT := Lib.hid (HT.out.keep hS1 trivial)
          have HS := Lib.hid (HS.out.trans hS1)
          have HPS := Lib.hid (HPS.out.keepAll hS1)
          have HWT := Lib.hid (OwnR.keepAll HWT.out hS1)
          have HSo := Lib.hid hS1
          clear hS1
          by_cases hlt : i < l.length + 1
          · obtain ⟨ap2, vc, vr, vd, hap, hown, p0, hps0⟩ := PartsO.at_ HPS.out (i := i) (by rw [states_len]; omega)
            have Hfin := Lib.hid (fine_run Hlw.out i (by omega))
            rw [states_at] at hown p0 hps0
            obtain ⟨p, hp⟩ : ∃ p, runP (l.take i) = p := ⟨_, rfl⟩
            rw [hp] at hown p0 hps0 Hfin
            have Hp := Lib.hid hp
            obtain ⟨P0, p0_, rfl, hq1, hq2⟩ := hown.cells.form
            obtain ⟨P1, p1_, rfl, hq3, hq4⟩ := OwnR.form hown.recs
            obtain ⟨P2, p2_, rfl, hq5, hq6⟩ := OwnR.form hown.done
            unfold maxLen at hq2 hq4 hq6
            have p4 := hps0 4 (by omega) (by omega)
            have p5 := hps0 5 (by omega) (by omega)
            have p6 := hps0 6 (by omega) (by omega)
            simp only [partCs, List.getElem?_cons_zero, List.getElem?_cons_succ] at p4 p5 p6
            have HO := Lib.hid hown.reads.cells
            obtain rfl := Option.some.inj hap
            clear hp hps0 hown p0
            have x1 : (0 : Int) ≤ (i : Int) := by omega
            have x2 : (i : Int) < (l.length : Int) + 1 := by omega
            have x3 : i < l.length + 1 := by omega
            have x4 : i ≤ l.length := by omega
            have x5 : (i : Int) < ((l.length + 1 : Nat) : Int) := by omega
            have x6 : (i : Int) ≤ (l.length : Int) := by omega
            by_cases hlow : p.low ≤ wall
            · have hsh := Hsh.out i hji (by omega) (by rw [Hp.out, Haw.out]; exact hlow)
              rw [Hp.out] at hsh
              have hq0 := (quiet_iff a lo hi p.cells).2 hsh.quiet
              obtain ⟨lk, bb, hbl⟩ : ∃ x y, blocksF p.cells lo hi a = (x, y) := ⟨_, _, rfl⟩
              have gb := fun W (hW : Same (fun _ => True) wr W) => refblocks_any (.slice P0 p.cells.length p0_) p.cells lo hi a _ W (HO.out.keepAll hW)
              rw [hbl] at gb hq0
              have hq0 : bb = false := hq0
              subst hq0
              have HL := Lib.hid hsh.told
              clear hsh hbl
              have r_ := B0.out
              have k0 := r_.cell 0
              have k1 := r_.cell 1
              simp only [partCs, cmdCs, repCs, tryCs, stCs, wrCs, lckCs, celCs, pairCs, List.getElem?_cons_zero, List.getElem?_cons_succ] at k0 k1
              clear r_
              have r_ := HT.out
              have t0 := r_.cell 0
              have t1 := r_.cell 1
              simp only [partCs, cmdCs, repCs, tryCs, stCs, wrCs, lckCs, celCs, pairCs, List.getElem?_cons_zero, List.getElem?_cons_succ] at t0 t1
              clear r_
              go_wp2
              go_cut [16, 17] from 113 to 123 (fun v16 v17 wx => v17 = .bool false ∧ Same (fun _ => True) wr wx)
              case first =>
                refine wp_region_tail_d (L := [.eq (.slice (some ap) (l.length + 1) cap), .eq (.int .i64 i), .eq (.pointer (some (ap.add (i * 9)))), .eq (.pointer (some ⟨(ap.add (i * 9)).block, (ap.add (i * 9)).off + 6, none⟩)), .eq (.slice P0 p.cells.length p0_), .eq (.agg #[.string (str lo), .string (str hi)]), .eq (stV a), .eq (.tuple #[lckV lk, .bool false]), .eq (.tuple #[lckV lk, .bool false]), .eq (lckV lk), .eq (.bool false), .of ⟨fun v w => ∃ g, v = .pointer (some ⟨g, 0, none⟩) ∧ wr.heap.size ≤ g ∧ Row w g 30 (lckCs Lck.zero), fun _ _ _ ⟨g, h1, h2, h3⟩ k => ⟨g, h1, h2, h3.keep k trivial⟩⟩]) 12 10 (by omega) (by kernel_rfl) (by kernel_rfl) rfl rfl rfl rfl rfl rfl ?_ ?_ ?_
                · refine ⟨?_, ?_, ?_, ?_, ?_, ?_, ?_, ?_, ?_, ?_, ?_, ?_, trivial⟩
                  · intro ac wc hs hd hz hf hw K hK
                    have e0 : ac.eval (.tmp 9) = (.slice (some ap) (l.length + 1) cap) := hf 9 rfl
                    clear hd hz hf hw
                    simp only [Region.wanted, if_true, Oper.wp, execOp, resolve, List.map_toArray, List.map_cons, List.map_nil, Option.map_some, Option.map_none, e0]
                    go_simp
                    exact hK _ _ rfl (Same.refl _ _)
                  · intro ac wc hs hd hz hf hw K hK
                    have e0 : ac.eval (.tmp 15) = (.int .i64 i) := hf 15 rfl
                    clear hd hz hf hw
                    simp only [Region.wanted, if_true, Oper.wp, execOp, resolve, List.map_toArray, List.map_cons, List.map_nil, Option.map_some, Option.map_none, e0]
                    go_simp
                    exact hK _ _ rfl (Same.refl _ _)
                  · intro ac wc hs hd hz hf hw K hK
                    have e0 : ac.eval (.tmp 114) = (.slice (some ap) (l.length + 1) cap) := hw 0 rfl
                    have e1 : ac.eval (.tmp 115) = (.int .i64 i) := hw 1 rfl
                    clear hd hz hf hw
                    simp only [Region.wanted, if_true, Oper.wp, execOp, resolve, List.map_toArray, List.map_cons, List.map_nil, Option.map_some, Option.map_none, e0, e1]
                    go_simp
                    exact hK _ _ rfl (Same.refl _ _)
                  · intro ac wc hs hd hz hf hw K hK
                    have e0 : ac.eval (.tmp 116) = (.pointer (some (ap.add (i * 9)))) := hw 2 rfl
                    clear hd hz hf hw
                    simp only [Region.wanted, if_true, Oper.wp, execOp, resolve, List.map_toArray, List.map_cons, List.map_nil, Option.map_some, Option.map_none, e0]
                    go_simp
                    exact hK _ _ rfl (Same.refl _ _)
                  · intro ac wc hs hd hz hf hw K hK
                    have e0 : ac.eval (.tmp 117) = (.pointer (some ⟨(ap.add (i * 9)).block, (ap.add (i * 9)).off + 6, none⟩)) := hw 3 rfl
                    have m0 : wc.cell? ⟨(ap.add (i * 9)).block, (ap.add (i * 9)).off + 6, none⟩ = some (.slice P0 p.cells.length p0_) := hs.cell (p := ⟨(ap.add (i * 9)).block, (ap.add (i * 9)).off + 6, none⟩) trivial p6
                    clear hd hz hf hw
                    simp only [Region.wanted, if_true, Oper.wp, execOp, resolve, List.map_toArray, List.map_cons, List.map_nil, Option.map_some, Option.map_none, e0]
                    go_simp
                    exact hK _ _ rfl (Same.refl _ _)
                  · intro ac wc hs hd hz hf hw K hK
                    have e0 : ac.eval (.tmp 7) = (.pointer (some ⟨w.heap.size, 0, none⟩)) := hf 7 rfl
                    have m0 : wc.cell? ⟨w.heap.size, 0, none⟩ = some (.string (str lo)) := hs.cell (p := ⟨w.heap.size, 0, none⟩) trivial k0
                    have m1 : wc.cell? ⟨w.heap.size, 1, none⟩ = some (.string (str hi)) := hs.cell (p := ⟨w.heap.size, 1, none⟩) trivial k1
                    clear hd hz hf hw
                    simp only [Region.wanted, if_true, Oper.wp, execOp, resolve, List.map_toArray, List.map_cons, List.map_nil, Option.map_some, Option.map_none, e0]
                    go_simp
                    exact hK _ _ rfl (Same.refl _ _)
                  · intro ac wc hs hd hz hf hw K hK
                    have e0 : ac.eval (.tmp 10) = (.pointer (some ⟨w3.heap.size, 0, none⟩)) := hf 10 rfl
                    have m0 : wc.cell? ⟨w3.heap.size, 0, none⟩ = some (.int .i64 a.wall) := hs.cell (p := ⟨w3.heap.size, 0, none⟩) trivial t0
                    have m1 : wc.cell? ⟨w3.heap.size, 1, none⟩ = some (.int .i64 a.tie) := hs.cell (p := ⟨w3.heap.size, 1, none⟩) trivial t1
                    clear hd hz hf hw
                    simp only [Region.wanted, if_true, Oper.wp, execOp, resolve, List.map_toArray, List.map_cons, List.map_nil, Option.map_some, Option.map_none, e0]
                    go_simp
                    exact hK _ _ rfl (Same.refl _ _)
                  · intro ac wc hs hd hz hf hw K hK
                    have e0 : ac.eval (.tmp 118) = (.slice P0 p.cells.length p0_) := hw 4 rfl
                    have e1 : ac.eval (.tmp 119) = (.agg #[.string (str lo), .string (str hi)]) := hw 5 rfl
                    have e2 : ac.eval (.tmp 120) = (stV a) := hw 6 rfl
                    clear hd hz hf hw
                    simp only [Region.wanted, if_true, Oper.wp, execOp, resolve, List.map_toArray, List.map_cons, List.map_nil, Option.map_some, Option.map_none, e0, e1, e2]
                    go_simp
                    refine (gb wc hs).mono ?_
                    rintro e wd ⟨rfl, hs2⟩
                    exact hK _ _ rfl hs2
                  · intro ac wc hs hd hz hf hw K hK
                    have e0 : ac.eval (.tmp 121) = (.tuple #[lckV lk, .bool false]) := hw 7 rfl
                    clear hd hz hf hw
                    simp only [Region.wanted, if_true, Oper.wp, execOp, resolve, List.map_toArray, List.map_cons, List.map_nil, Option.map_some, Option.map_none, e0]
                    go_simp
                    exact hK _ _ rfl (Same.refl _ _)
                  · intro ac wc hs hd hz hf hw K hK
                    have e0 : ac.eval (.tmp 113) = (.tuple #[lckV lk, .bool false]) := hw 8 rfl
                    clear hd hz hf hw
                    simp only [Region.wanted, if_true, Oper.wp, execOp, resolve, List.map_toArray, List.map_cons, List.map_nil, Option.map_some, Option.map_none, e0]
                    go_simp
                    exact hK _ _ rfl (Same.refl _ _)
                  · intro ac wc hs hd hz hf hw K hK
                    have e0 : ac.eval (.tmp 113) = (.tuple #[lckV lk, .bool false]) := hw 8 rfl
                    clear hd hz hf hw
                    simp only [Region.wanted, if_true, Oper.wp, execOp, resolve, List.map_toArray, List.map_cons, List.map_nil, Option.map_some, Option.map_none, e0]
                    go_simp
                    exact hK _ _ rfl (Same.refl _ _)
                  · intro ac wc hs hd hz hf hw K hK
                    clear hd hz hf hw
                    simp only [Region.wanted, if_true, Oper.wp, execOp, resolve, List.map_toArray, List.map_cons, List.map_nil, Option.map_some, Option.map_none]
                    go_simp
                    exact hK _ _ ⟨_, rfl, hs.size, Row.new _ _ (lckCs Lck.zero)⟩ ((Same.refl _ _).alloc _)
                · intro vs wR hvl hvp hsR
                  rcases vs with _ | ⟨z0, _ | ⟨z1, _ | ⟨z2, _ | ⟨z3, _ | ⟨z4, _ | ⟨z5, _ | ⟨z6, _ | ⟨z7, _ | ⟨z8, _ | ⟨z9, _ | ⟨z10, _ | ⟨z11, _ | ⟨zz, zr⟩⟩⟩⟩⟩⟩⟩⟩⟩⟩⟩⟩⟩
                  rotate_right 1
                  · simp at hvl
                  · simp at hvl
                  · simp at hvl
                  · simp at hvl
                  · simp at hvl
                  · simp at hvl
                  · simp at hvl
                  · simp at hvl
                  · simp at hvl
                  · simp at hvl
                  · simp at hvl
                  · simp at hvl
                  · simp at hvl
                  · obtain rfl : z0 = (.slice (some ap) (l.length + 1) cap) := hvp 0 (by omega)
                    obtain rfl : z1 = (.int .i64 i) := hvp 1 (by omega)
                    obtain rfl : z2 = (.pointer (some (ap.add (i * 9)))) := hvp 2 (by omega)
                    obtain rfl : z3 = (.pointer (some ⟨(ap.add (i * 9)).block, (ap.add (i * 9)).off + 6, none⟩)) := hvp 3 (by omega)
                    obtain rfl : z4 = (.slice P0 p.cells.length p0_) := hvp 4 (by omega)
                    obtain rfl : z5 = (.agg #[.string (str lo), .string (str hi)]) := hvp 5 (by omega)
                    obtain rfl : z6 = (stV a) := hvp 6 (by omega)
                    obtain rfl : z7 = (.tuple #[lckV lk, .bool false]) := hvp 7 (by omega)
                    obtain rfl : z8 = (.tuple #[lckV lk, .bool false]) := hvp 8 (by omega)
                    obtain rfl : z9 = (lckV lk) := hvp 9 (by omega)
                    obtain rfl : z10 = (.bool false) := hvp 10 (by omega)
                    have hxl : (⟨fun v w => ∃ g, v = .pointer (some ⟨g, 0, none⟩) ∧ wr.heap.size ≤ g ∧ Row w g 30 (lckCs Lck.zero), fun _ _ _ ⟨g, h1, h2, h3⟩ k => ⟨g, h1, h2, h3.keep k trivial⟩⟩ : SP).p z11 wR := hvp 11 (by omega)
                    clear hvl hvp
                    simp only [putAll, Act.put, List.setIfInBounds_toArray, List.set_cons_succ, List.set_cons_zero, List.take_succ_cons, List.take_zero, List.drop_succ_cons, List.drop_zero, List.eraseIdx_cons_succ, List.eraseIdx_cons_zero]
                    obtain ⟨g9, rfl, hg9, r9⟩ := hxl
                    have z9 := r9.lt
                    have R9 := Lib.hid r9
                    have l0 := r9.cell 0
                    have l1 := r9.cell 1
                    have l2 := r9.cell 2
                    have l3 := r9.cell 3
                    have l4 := r9.cell 4
                    have l5 := r9.cell 5
                    have l6 := r9.cell 6
                    have l7 := r9.cell 7
                    have l8 := r9.cell 8
                    simp only [lckCs, Lck.zero, List.getElem?_cons_zero, List.getElem?_cons_succ] at l0 l1 l2 l3 l4 l5 l6 l7 l8
                    have h0 := r9.frozen 0
                    have h1 := r9.frozen 1
                    have h2 := r9.frozen 2
                    have h3 := r9.frozen 3
                    have h4 := r9.frozen 4
                    have h5 := r9.frozen 5
                    have h6 := r9.frozen 6
                    have h7 := r9.frozen 7
                    have h8 := r9.frozen 8
                    clear r9
                    go_wp2
                    go_meet
                    exact ⟨rfl, Same.sets' (by omega) (lckCs lk) 0 hsR⟩
                · intro vs wR hvl hvp hsR
                  rcases vs with _ | ⟨z0, _ | ⟨z1, _ | ⟨z2, _ | ⟨z3, _ | ⟨z4, _ | ⟨z5, _ | ⟨z6, _ | ⟨z7, _ | ⟨z8, _ | ⟨z9, _ | ⟨z11, _ | ⟨zz, zr⟩⟩⟩⟩⟩⟩⟩⟩⟩⟩⟩⟩
                  rotate_right 1
                  · simp at hvl
                  · simp at hvl
                  · simp at hvl
                  · simp at hvl
                  · simp at hvl
                  · simp at hvl
                  · simp at hvl
                  · simp at hvl
                  · simp at hvl
                  · simp at hvl
                  · simp at hvl
                  · simp at hvl
                  · obtain rfl : z0 = (.slice (some ap) (l.length + 1) cap) := hvp 0 (by omega)
                    obtain rfl : z1 = (.int .i64 i) := hvp 1 (by omega)
                    obtain rfl : z2 = (.pointer (some (ap.add (i * 9)))) := hvp 2 (by omega)
                    obtain rfl : z3 = (.pointer (some ⟨(ap.add (i * 9)).block, (ap.add (i * 9)).off + 6, none⟩)) := hvp 3 (by omega)
                    obtain rfl : z4 = (.slice P0 p.cells.length p0_) := hvp 4 (by omega)
                    obtain rfl : z5 = (.agg #[.string (str lo), .string (str hi)]) := hvp 5 (by omega)
                    obtain rfl : z6 = (stV a) := hvp 6 (by omega)
                    obtain rfl : z7 = (.tuple #[lckV lk, .bool false]) := hvp 7 (by omega)
                    obtain rfl : z8 = (.tuple #[lckV lk, .bool false]) := hvp 8 (by omega)
                    obtain rfl : z9 = (lckV lk) := hvp 9 (by omega)
                    have hxl : (⟨fun v w => ∃ g, v = .pointer (some ⟨g, 0, none⟩) ∧ wr.heap.size ≤ g ∧ Row w g 30 (lckCs Lck.zero), fun _ _ _ ⟨g, h1, h2, h3⟩ k => ⟨g, h1, h2, h3.keep k trivial⟩⟩ : SP).p z11 wR := hvp 10 (by omega)
                    clear hvl hvp
                    simp only [putAll, Act.put, List.setIfInBounds_toArray, List.set_cons_succ, List.set_cons_zero, List.take_succ_cons, List.take_zero, List.drop_succ_cons, List.drop_zero, List.eraseIdx_cons_succ, List.eraseIdx_cons_zero]
                    obtain ⟨g9, rfl, hg9, r9⟩ := hxl
                    have z9 := r9.lt
                    have R9 := Lib.hid r9
                    have l0 := r9.cell 0
                    have l1 := r9.cell 1
                    have l2 := r9.cell 2
                    have l3 := r9.cell 3
                    have l4 := r9.cell 4
                    have l5 := r9.cell 5
                    have l6 := r9.cell 6
                    have l7 := r9.cell 7
                    have l8 := r9.cell 8
                    simp only [lckCs, Lck.zero, List.getElem?_cons_zero, List.getElem?_cons_succ] at l0 l1 l2 l3 l4 l5 l6 l7 l8
                    have h0 := r9.frozen 0
                    have h1 := r9.frozen 1
                    have h2 := r9.frozen 2
                    have h3 := r9.frozen 3
                    have h4 := r9.frozen 4
                    have h5 := r9.frozen 5
                    have h6 := r9.frozen 6
                    have h7 := r9.frozen 7
                    have h8 := r9.frozen 8
                    clear r9
                    go_wp2
                    go_meet
                    exact ⟨rfl, Same.sets' (by omega) (lckCs lk) 0 hsR⟩
              case rest =>
                obtain ⟨rfl, hS1⟩ := hcut
                have B0 := Lib.hid (B0.out.keep hS1 trivial)
                have HT := Lib.hid (HT.out.keep hS1 trivial)
                have HS := Lib.hid (HS.out.trans hS1)
                have HPS := Lib.hid (HPS.out.keepAll hS1)
                have HWT := Lib.hid (OwnR.keepAll HWT.out hS1)
                have p4 := hS1.cell (p := ⟨(ap.add (i * 9)).block, (ap.add (i * 9)).off + 4, none⟩) trivial p4
                have p5 := hS1.cell (p := ⟨(ap.add (i * 9)).block, (ap.add (i * 9)).off + 5, none⟩) trivial p5
                have p6 := hS1.cell (p := ⟨(ap.add (i * 9)).block, (ap.add (i * 9)).off + 6, none⟩) trivial p6
                have HO := Lib.hid (HO.out.keepAll hS1)
                have HSo := Lib.hid (HSo.out.trans hS1)
                clear hS1 gb
                clear k0 k1
                clear t0 t1
                have gc := fun W (hW : Same (fun _ => True) wc W) => refscan_any (.slice P0 p.cells.length p0_) p.cells lo hi a 10000 _ W (HO.out.keepAll hW) (by have := Hfin.out.cells.len (by omega); omega)
                rw [scan_all (by have := Hfin.out.cells.few.1; omega), HL.out] at gc
                have hbw : BW ≤ wc.heap.size := by rw [HBW.out]; exact HS.out.size
                have r_ := B0.out
                have k0 := r_.cell 0
                have k1 := r_.cell 1
                simp only [partCs, cmdCs, repCs, tryCs, stCs, wrCs, lckCs, celCs, pairCs, List.getElem?_cons_zero, List.getElem?_cons_succ] at k0 k1
                clear r_
                have r_ := HT.out
                have t0 := r_.cell 0
                have t1 := r_.cell 1
                simp only [partCs, cmdCs, repCs, tryCs, stCs, wrCs, lckCs, celCs, pairCs, List.getElem?_cons_zero, List.getElem?_cons_succ] at t0 t1
                clear r_
                go_upto_region 16 with (fail)
                go_cut [18, 19] from 124 to 134 (fun v18 v19 wx => OwnP wx BW v18 L ∧ Same (fun _ => True) wc wx)
                case first =>
                  refine wp_region_tail_d (L := [.eq (.slice (some ap) (l.length + 1) cap), .eq (.int .i64 i), .eq (.pointer (some (ap.add (i * 9)))), .eq (.pointer (some ⟨(ap.add (i * 9)).block, (ap.add (i * 9)).off + 6, none⟩)), .eq (.slice P0 p.cells.length p0_), .eq (.agg #[.string (str lo), .string (str hi)]), .eq (stV a), .of ⟨fun v w => ∃ u, v = .tuple #[u, .int .i64 0] ∧ OwnP w BW u L, fun _ _ _ ⟨u, h1, h2⟩ k => ⟨u, h1, h2.keepAll k⟩⟩, .of ⟨fun v w => ∃ u, v = .tuple #[u, .int .i64 0] ∧ OwnP w BW u L, fun _ _ _ ⟨u, h1, h2⟩ k => ⟨u, h1, h2.keepAll k⟩⟩, .of ⟨fun u w => OwnP w BW u L, fun _ _ _ h k => h.keepAll k⟩, .eq (.int .i64 0)]) 11 10 (by omega) (by kernel_rfl) (by kernel_rfl) rfl rfl rfl rfl rfl rfl ?_ ?_ ?_
                  · refine ⟨?_, ?_, ?_, ?_, ?_, ?_, ?_, ?_, ?_, ?_, ?_, trivial⟩
                    · intro ac wc hs hd hz hf hw K hK
                      have e0 : ac.eval (.tmp 9) = (.slice (some ap) (l.length + 1) cap) := hf 9 rfl
                      clear hd hz hf hw
                      simp only [Region.wanted, if_true, Oper.wp, execOp, resolve, List.map_toArray, List.map_cons, List.map_nil, Option.map_some, Option.map_none, e0]
                      go_simp
                      exact hK _ _ rfl (Same.refl _ _)
                    · intro ac wc hs hd hz hf hw K hK
                      have e0 : ac.eval (.tmp 15) = (.int .i64 i) := hf 15 rfl
                      clear hd hz hf hw
                      simp only [Region.wanted, if_true, Oper.wp, execOp, resolve, List.map_toArray, List.map_cons, List.map_nil, Option.map_some, Option.map_none, e0]
                      go_simp
                      exact hK _ _ rfl (Same.refl _ _)
                    · intro ac wc hs hd hz hf hw K hK
                      have e0 : ac.eval (.tmp 125) = (.slice (some ap) (l.length + 1) cap) := hw 0 rfl
                      have e1 : ac.eval (.tmp 126) = (.int .i64 i) := hw 1 rfl
                      clear hd hz hf hw
                      simp only [Region.wanted, if_true, Oper.wp, execOp, resolve, List.map_toArray, List.map_cons, List.map_nil, Option.map_some, Option.map_none, e0, e1]
                      go_simp
                      exact hK _ _ rfl (Same.refl _ _)
                    · intro ac wc hs hd hz hf hw K hK
                      have e0 : ac.eval (.tmp 127) = (.pointer (some (ap.add (i * 9)))) := hw 2 rfl
                      clear hd hz hf hw
                      simp only [Region.wanted, if_true, Oper.wp, execOp, resolve, List.map_toArray, List.map_cons, List.map_nil, Option.map_some, Option.map_none, e0]
                      go_simp
                      exact hK _ _ rfl (Same.refl _ _)
                    · intro ac wc hs hd hz hf hw K hK
                      have e0 : ac.eval (.tmp 128) = (.pointer (some ⟨(ap.add (i * 9)).block, (ap.add (i * 9)).off + 6, none⟩)) := hw 3 rfl
                      have m0 : wc.cell? ⟨(ap.add (i * 9)).block, (ap.add (i * 9)).off + 6, none⟩ = some (.slice P0 p.cells.length p0_) := hs.cell (p := ⟨(ap.add (i * 9)).block, (ap.add (i * 9)).off + 6, none⟩) trivial p6
                      clear hd hz hf hw
                      simp only [Region.wanted, if_true, Oper.wp, execOp, resolve, List.map_toArray, List.map_cons, List.map_nil, Option.map_some, Option.map_none, e0]
                      go_simp
                      exact hK _ _ rfl (Same.refl _ _)
                    · intro ac wc hs hd hz hf hw K hK
                      have e0 : ac.eval (.tmp 7) = (.pointer (some ⟨w.heap.size, 0, none⟩)) := hf 7 rfl
                      have m0 : wc.cell? ⟨w.heap.size, 0, none⟩ = some (.string (str lo)) := hs.cell (p := ⟨w.heap.size, 0, none⟩) trivial k0
                      have m1 : wc.cell? ⟨w.heap.size, 1, none⟩ = some (.string (str hi)) := hs.cell (p := ⟨w.heap.size, 1, none⟩) trivial k1
                      clear hd hz hf hw
                      simp only [Region.wanted, if_true, Oper.wp, execOp, resolve, List.map_toArray, List.map_cons, List.map_nil, Option.map_some, Option.map_none, e0]
                      go_simp
                      exact hK _ _ rfl (Same.refl _ _)
                    · intro ac wc hs hd hz hf hw K hK
                      have e0 : ac.eval (.tmp 10) = (.pointer (some ⟨w3.heap.size, 0, none⟩)) := hf 10 rfl
                      have m0 : wc.cell? ⟨w3.heap.size, 0, none⟩ = some (.int .i64 a.wall) := hs.cell (p := ⟨w3.heap.size, 0, none⟩) trivial t0
                      have m1 : wc.cell? ⟨w3.heap.size, 1, none⟩ = some (.int .i64 a.tie) := hs.cell (p := ⟨w3.heap.size, 1, none⟩) trivial t1
                      clear hd hz hf hw
                      simp only [Region.wanted, if_true, Oper.wp, execOp, resolve, List.map_toArray, List.map_cons, List.map_nil, Option.map_some, Option.map_none, e0]
                      go_simp
                      exact hK _ _ rfl (Same.refl _ _)
                    · intro ac wc hs hd hz hf hw K hK
                      have e0 : ac.eval (.tmp 129) = (.slice P0 p.cells.length p0_) := hw 4 rfl
                      have e1 : ac.eval (.tmp 130) = (.agg #[.string (str lo), .string (str hi)]) := hw 5 rfl
                      have e2 : ac.eval (.tmp 131) = (stV a) := hw 6 rfl
                      clear hd hz hf hw
                      simp only [Region.wanted, if_true, Oper.wp, execOp, resolve, List.map_toArray, List.map_cons, List.map_nil, Option.map_some, Option.map_none, e0, e1, e2]
                      go_simp
                      refine (gc wc hs).mono ?_
                      rintro e wd ⟨u, rfl, hown, hS⟩
                      exact hK _ _ ⟨u, rfl, hown.lower (by have := hs.size; omega)⟩ hS
                    · intro ac wc hs hd hz hf hw K hK
                      have p0 : (⟨fun v w => ∃ u, v = .tuple #[u, .int .i64 0] ∧ OwnP w BW u L, fun _ _ _ ⟨u, h1, h2⟩ k => ⟨u, h1, h2.keepAll k⟩⟩ : SP).p (ac.eval (.tmp 132)) wc := hw 7 rfl
                      obtain ⟨u0, e0⟩ : ∃ u, ac.eval (.tmp 132) = u := ⟨_, rfl⟩
                      rw [e0] at p0
                      clear hd hz hf hw
                      simp only [Region.wanted, if_true, Oper.wp, execOp, resolve, List.map_toArray, List.map_cons, List.map_nil, Option.map_some, Option.map_none, e0]
                      go_simp
                      exact hK _ _ p0 (Same.refl _ _)
                    · intro ac wc hs hd hz hf hw K hK
                      have p0 : (⟨fun v w => ∃ u, v = .tuple #[u, .int .i64 0] ∧ OwnP w BW u L, fun _ _ _ ⟨u, h1, h2⟩ k => ⟨u, h1, h2.keepAll k⟩⟩ : SP).p (ac.eval (.tmp 124)) wc := hw 8 rfl
                      obtain ⟨u0, e0⟩ : ∃ u, ac.eval (.tmp 124) = u := ⟨_, rfl⟩
                      rw [e0] at p0
                      clear hd hz hf hw
                      simp only [Region.wanted, if_true, Oper.wp, execOp, resolve, List.map_toArray, List.map_cons, List.map_nil, Option.map_some, Option.map_none, e0]
                      go_simp
                      obtain ⟨u, e, hu⟩ := p0
                      subst e
                      go_simp
                      exact hK _ _ hu (Same.refl _ _)
                    · intro ac wc hs hd hz hf hw K hK
                      have p0 : (⟨fun v w => ∃ u, v = .tuple #[u, .int .i64 0] ∧ OwnP w BW u L, fun _ _ _ ⟨u, h1, h2⟩ k => ⟨u, h1, h2.keepAll k⟩⟩ : SP).p (ac.eval (.tmp 124)) wc := hw 8 rfl
                      obtain ⟨u0, e0⟩ : ∃ u, ac.eval (.tmp 124) = u := ⟨_, rfl⟩
                      rw [e0] at p0
                      clear hd hz hf hw
                      simp only [Region.wanted, if_true, Oper.wp, execOp, resolve, List.map_toArray, List.map_cons, List.map_nil, Option.map_some, Option.map_none, e0]
                      go_simp
                      obtain ⟨u, e, hu⟩ := p0
                      subst e
                      go_simp
                      exact hK _ _ rfl (Same.refl _ _)
                  · intro vs wR hvl hvp hsR
                    rcases vs with _ | ⟨z0, _ | ⟨z1, _ | ⟨z2, _ | ⟨z3, _ | ⟨z4, _ | ⟨z5, _ | ⟨z6, _ | ⟨z7, _ | ⟨z8, _ | ⟨z9, _ | ⟨z10, _ | ⟨zz, zr⟩⟩⟩⟩⟩⟩⟩⟩⟩⟩⟩⟩
                    rotate_right 1
                    · simp at hvl
                    · simp at hvl
                    · simp at hvl
                    · simp at hvl
                    · simp at hvl
                    · simp at hvl
                    · simp at hvl
                    · simp at hvl
                    · simp at hvl
                    · simp at hvl
                    · simp at hvl
                    · simp at hvl
                    · obtain rfl : z0 = (.slice (some ap) (l.length + 1) cap) := hvp 0 (by omega)
                      obtain rfl : z1 = (.int .i64 i) := hvp 1 (by omega)
                      obtain rfl : z2 = (.pointer (some (ap.add (i * 9)))) := hvp 2 (by omega)
                      obtain rfl : z3 = (.pointer (some ⟨(ap.add (i * 9)).block, (ap.add (i * 9)).off + 6, none⟩)) := hvp 3 (by omega)
                      obtain rfl : z4 = (.slice P0 p.cells.length p0_) := hvp 4 (by omega)
                      obtain rfl : z5 = (.agg #[.string (str lo), .string (str hi)]) := hvp 5 (by omega)
                      obtain rfl : z6 = (stV a) := hvp 6 (by omega)
                      have ht7 : (⟨fun v w => ∃ u, v = .tuple #[u, .int .i64 0] ∧ OwnP w BW u L, fun _ _ _ ⟨u, h1, h2⟩ k => ⟨u, h1, h2.keepAll k⟩⟩ : SP).p z7 wR := hvp 7 (by omega)
                      have ht8 : (⟨fun v w => ∃ u, v = .tuple #[u, .int .i64 0] ∧ OwnP w BW u L, fun _ _ _ ⟨u, h1, h2⟩ k => ⟨u, h1, h2.keepAll k⟩⟩ : SP).p z8 wR := hvp 8 (by omega)
                      have ht9 : (⟨fun u w => OwnP w BW u L, fun _ _ _ h k => h.keepAll k⟩ : SP).p z9 wR := hvp 9 (by omega)
                      obtain rfl : z10 = (.int .i64 0) := hvp 10 (by omega)
                      clear hvl hvp
                      simp only [putAll, Act.put, List.setIfInBounds_toArray, List.set_cons_succ, List.set_cons_zero, List.take_succ_cons, List.take_zero, List.drop_succ_cons, List.drop_zero, List.eraseIdx_cons_succ, List.eraseIdx_cons_zero]
                      obtain ⟨u8, rfl, hu8⟩ := ht8
                      go_wp2
                      go_meet
                      exact ⟨ht9, hsR⟩
                  · intro vs wR hvl hvp hsR
                    rcases vs with _ | ⟨z0, _ | ⟨z1, _ | ⟨z2, _ | ⟨z3, _ | ⟨z4, _ | ⟨z5, _ | ⟨z6, _ | ⟨z7, _ | ⟨z8, _ | ⟨z9, _ | ⟨zz, zr⟩⟩⟩⟩⟩⟩⟩⟩⟩⟩⟩
                    rotate_right 1
                    · simp at hvl
                    · simp at hvl
                    · simp at hvl
                    · simp at hvl
                    · simp at hvl
                    · simp at hvl
                    · simp at hvl
                    · simp at hvl
                    · simp at hvl
                    · simp at hvl
                    · simp at hvl
                    · obtain rfl : z0 = (.slice (some ap) (l.length + 1) cap) := hvp 0 (by omega)
                      obtain rfl : z1 = (.int .i64 i) := hvp 1 (by omega)
                      obtain rfl : z2 = (.pointer (some (ap.add (i * 9)))) := hvp 2 (by omega)
                      obtain rfl : z3 = (.pointer (some ⟨(ap.add (i * 9)).block, (ap.add (i * 9)).off + 6, none⟩)) := hvp 3 (by omega)
                      obtain rfl : z4 = (.slice P0 p.cells.length p0_) := hvp 4 (by omega)
                      obtain rfl : z5 = (.agg #[.string (str lo), .string (str hi)]) := hvp 5 (by omega)
                      obtain rfl : z6 = (stV a) := hvp 6 (by omega)
                      have ht7 : (⟨fun v w => ∃ u, v = .tuple #[u, .int .i64 0] ∧ OwnP w BW u L, fun _ _ _ ⟨u, h1, h2⟩ k => ⟨u, h1, h2.keepAll k⟩⟩ : SP).p z7 wR := hvp 7 (by omega)
                      have ht8 : (⟨fun v w => ∃ u, v = .tuple #[u, .int .i64 0] ∧ OwnP w BW u L, fun _ _ _ ⟨u, h1, h2⟩ k => ⟨u, h1, h2.keepAll k⟩⟩ : SP).p z8 wR := hvp 8 (by omega)
                      have ht9 : (⟨fun u w => OwnP w BW u L, fun _ _ _ h k => h.keepAll k⟩ : SP).p z9 wR := hvp 9 (by omega)
                      clear hvl hvp
                      simp only [putAll, Act.put, List.setIfInBounds_toArray, List.set_cons_succ, List.set_cons_zero, List.take_succ_cons, List.take_zero, List.drop_succ_cons, List.drop_zero, List.eraseIdx_cons_succ, List.eraseIdx_cons_zero]
                      obtain ⟨u8, rfl, hu8⟩ := ht8
                      go_wp2
                      go_meet
                      exact ⟨ht9, hsR⟩
                case rest =>
                  obtain ⟨hown, hS1⟩ := hcut
                  obtain ⟨A4, c4_, rfl, hb5, hb6⟩ := OwnP.form hown
                  unfold maxLen at hb6
                  have HWU := Lib.hid hown
                  have B0 := Lib.hid (B0.out.keep hS1 trivial)
                  have HT := Lib.hid (HT.out.keep hS1 trivial)
                  have HS := Lib.hid (HS.out.trans hS1)
                  have HPS := Lib.hid (HPS.out.keepAll hS1)
                  have HWT := Lib.hid (OwnR.keepAll HWT.out hS1)
                  have HSo := Lib.hid (HSo.out.trans hS1)
                  clear hown hS1 hbw p4 p5 p6 gc HO x1 x2 x3 x4 x5 x6 hq1 hq2 hq3 hq4 hq5 hq6 HL Hp Hfin hlow
                  clear k0 k1
                  clear t0 t1
                  have hne := pair_ne
                  go_wp2
                  obtain ⟨wo2, rfl⟩ : ∃ wo2 : World, wo2 = wc := ⟨_, rfl⟩
                  go_loopw [20] (fun v wr => ∃ m : Nat, v = .int .i64 m ∧ m ≤ L.length ∧ Same (fun _ => True) wo2 wr) (fun v _ => L.length - (intOf v).toNat)
                  case atStart => exact ⟨0, rfl, Nat.zero_le _, Same.refl _ _⟩
                  case round =>
                    obtain ⟨m, rfl, hm, hS1⟩ := hrel
                    have HSp := Lib.hid hS1
                    have HSq := Lib.hid (HSo.out.trans hS1)
                    by_cases hml : m < L.length
                    · obtain ⟨ad1, h1_, -, e0, e1⟩ := SpanR.cells ((OwnR.wr (OwnR.keepAll HWT.out hS1)).row fun _ => rfl) hml
                      obtain ⟨ad2, h2_, -, f0, f1⟩ := SpanR.cells ((OwnR.wr (OwnR.keepAll HWU.out hS1)).row fun _ => rfl) hml
                      subst h1_ h2_
                      have x1 : (0 : Int) ≤ (m : Int) := by omega
                      have x2 : (m : Int) < (L.length : Int) := by omega
                      generalize L[m] = pr at *
                      clear hS1
                      go_wp2
                      go_quiet (fail)
                      rename_i nq
                      have HS2 := Lib.hid (HSp.out.trans ((Same.refl (fun _ => True) _).drewN nq))
                      clear e0 e1 f0 f1
                      go_wp2
                      go_roundw
                      case rel => exact ⟨m + 1, by go_num, by omega, HS2.out⟩
                      case measure => simp [intOf]; omega
                    · obtain rfl : m = L.length := by omega
                      clear hS1
                      go_wp2
                      go_roundw
                      case rel => exact ⟨i + 1, by go_num, by omega, by omega, HSq.out⟩
                      case measure => simp [intOf]; omega
            · go_wp2
              go_ret
              exact ⟨rfl, HS.out⟩
          · obtain rfl : i = l.length + 1 := by omega
            go_wp2
            go_ret
            exact ⟨rfl, HS.out⟩
end Go.Proofs.Ytoldelocfmpccaa
