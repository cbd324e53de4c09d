/-
  PartLocks: for all commands, a Prepare that is OK locks all its writes, and nobody but a Settle of its attempt unlocks: the walk.
-/
import Derived.Test.YtoldelocfmpccaaS9
import Derived.Test.YtoldelocfmpccaaS8
import Derived.Test.YtoldelocfmpccaaS7
import Derived.Test.YtoldelocfmpccaaS6
import Derived.Test.YtoldelocfmpccaaS5
import Derived.Test.YtoldelocfmpccaaS4
import Derived.Test.YtoldelocfmpccaaS3
import Derived.Test.YtoldelocfmpccaaS2
import Derived.Test.YtoldelocfmpccaaS14
import Derived.Test.YtoldelocfmpccaaS13
import Derived.Test.YtoldelocfmpccaaS12
import Derived.Test.YtoldelocfmpccaaS11
import Derived.Test.YtoldelocfmpccaaS10
import Derived.Test.YtoldelocfmpccaaS1
import Derived.Test.YtoldelocfmpccaaU1
set_option linter.unusedSimpArgs false
set_option linter.unusedVariables false
namespace Go.Proofs.Ytoldelocfmpccaa
open Go.RowKit
theorem lck_ne (l : Lck) (w : World) : (binOp .neq 30 (lckV l) (lckV l)).run Try.prog w = .ok (.bool false) w := by
  go_simp
set_option maxRecDepth 100000 in
set_option maxHeartbeats 8000000 in
theorem locks_walk (v : Value) (l : List CmdM) (w : World) (hv : CmdR w (fun k => k < w.heap.size) v l) :
    Calls Try.prog 17 #[v] w fun e w' => e = .returned (.bool true) ∧ Same (fun _ => True) w w' := by
  obtain ⟨A, cl, rfl, hlc, hlm⟩ := hv.form
  have Hv := Lib.hid hv
  unfold maxLen at hlm
  clear hv
  have HS := Lib.hid (Same.refl (fun _ => True) w)
  go_enter Try.func17, Try.ntmps17
  go_wp2_with (go_at_call 38; refine stopAt ?_)
  unfold Hid
  refine (begunp_any _).mono ?_
  rintro e w1 ⟨rfl, hS1⟩
  have HS := Lib.hid (HS.out.trans hS1)
  clear hS1
  go_wp2_with (go_at_call 39; refine stopAt ?_)
  unfold Hid
  refine (lightk_any (.slice A l.length cl) l 50 _ w1 (Hv.out.keepAll HS.out) (by omega)).mono ?_
  rintro e w2 ⟨bl, rfl, hbl, hS1⟩
  have HS := Lib.hid (HS.out.trans hS1)
  clear hS1
  cases bl
  · clear hbl
    go_wp2
    go_ret
    exact ⟨rfl, HS.out⟩
  obtain ⟨hlen, hlw⟩ := hbl rfl
  clear hbl
  have Hlw := Lib.hid hlw
  clear hlw
  have r0 := Row.new w2 77 zeroPart
  have hS0 := (Same.refl (fun _ => True) w2).alloc (.cells zeroPart.toArray 77)
  go_wp2
  simp only [zeroPart] at r0 hS0
  revert r0 hS0
  generalize w2.alloc _ = w3
  intro r0 hS0
  have HP0 := Lib.hid (show Row w3 w2.heap.size 77 (partCs nilV nilV nilV (runP (l.take 0))) from r0)
  have HZ := Lib.hid (show w.heap.size ≤ w2.heap.size from HS.out.size)
  have HS := Lib.hid (HS.out.trans hS0)
  clear r0 hS0
  go_loopw [4] (fun i wr => ∃ (k : Nat) (vc vr vd : Value), i = .int .i64 k ∧ k ≤ l.length ∧ Row wr w2.heap.size 77 (partCs vc vr vd (runP (l.take k))) ∧ OwnPart wr w.heap.size vc vr vd (runP (l.take k)) ∧ Same (fun _ => True) w wr) (fun i _ => l.length - (intOf i).toNat)
  case atStart => exact ⟨0, nilV, nilV, nilV, rfl, Nat.zero_le _, HP0.out, ⟨OwnC.nil _ _, OwnR.nil _ _, OwnR.nil _ _, fun k h => by cases h⟩, HS.out⟩
  case round =>
    obtain ⟨k, vc, vr, vd, rfl, hk, hrow, hown, hS⟩ := hrel
    clear HP0 HS
    have HS := Lib.hid hS
    have HP := Lib.hid hrow
    have Hfin := Lib.hid (fine_run Hlw.out k (by omega))
    have hfe := run_epoch (l := l) k (by omega)
    by_cases hlt : k < l.length
    · obtain ⟨ad, vs, vw, rfl, -, hsp, hwr, hcl, c0, hcs⟩ := CmdR.at_ (Hv.out.keepAll hS) hlt
      have hcw := Hlw.out l[k] (List.getElem_mem hlt)
      have Hst := Lib.hid (runP_step hlt)
      generalize l[k] = c at *
      generalize runP (l.take k) = p at *
      obtain ⟨As, cs_, rfl, hs1, hs2⟩ := SpanR.form hsp
      obtain ⟨Aw, cw_, rfl, hw1, hw2⟩ := WrR.form hwr
      obtain ⟨P0, p0_, rfl, hq1, hq2⟩ := hown.cells.form
      obtain ⟨P1, p1_, rfl, hq3, hq4⟩ := OwnR.form hown.recs
      obtain ⟨P2, p2_, rfl, hq5, hq6⟩ := OwnR.form hown.done
      unfold maxLen at hs2 hw2 hq2 hq4 hq6
      have HO := Lib.hid hown
      have Hsp := Lib.hid (hsp.mono (S' := fun _ => True) (by omega) fun _ _ _ => trivial)
      have Hwr := Lib.hid (hwr.mono (S' := fun _ => True) (by omega) fun _ _ _ => trivial)
      have x1 : (0 : Int) ≤ (k : Int) := by omega
      have x2 : (k : Int) < (l.length : Int) := by omega
      have hep : -9223372036854775808 ≤ p.epoch ∧ p.epoch < 9223372036854775807 := by omega
      have c1 := hcs 1 (by omega) (by omega)
      have c2 := hcs 2 (by omega) (by omega)
      have c3 := hcs 3 (by omega) (by omega)
      have c4 := hcs 4 (by omega) (by omega)
      have c5 := hcs 5 (by omega) (by omega)
      have c6 := hcs 6 (by omega) (by omega)
      have c7 := hcs 7 (by omega) (by omega)
      have c8 := hcs 8 (by omega) (by omega)
      have c9 := hcs 9 (by omega) (by omega)
      have c10 := hcs 10 (by omega) (by omega)
      have c11 := hcs 11 (by omega) (by omega)
      have c12 := hcs 12 (by omega) (by omega)
      have c13 := hcs 13 (by omega) (by omega)
      simp only [cmdCs, List.getElem?_cons_zero, List.getElem?_cons_succ] at c1 c2 c3 c4 c5 c6 c7 c8 c9 c10 c11 c12 c13
      clear hsp hwr hown hcl hcs hS hrow
      have r_ := HP.out
      have p0 := r_.cell 0
      have p1 := r_.cell 1
      have p2 := r_.cell 2
      have p3 := r_.cell 3
      have p4 := r_.cell 4
      have p5 := r_.cell 5
      have p6 := r_.cell 6
      have p7 := r_.cell 7
      have p8 := r_.cell 8
      simp only [partCs, cmdCs, repCs, tryCs, stCs, wrCs, lckCs, celCs, pairCs, List.getElem?_cons_zero, List.getElem?_cons_succ] at p0 p1 p2 p3 p4 p5 p6 p7 p8
      clear r_
      go_wp2
      go_cut [5] from 26 to 31 (fun v5 wx => ∃ g5, v5 = .pointer (some ⟨g5, 0, none⟩) ∧ wr.heap.size ≤ g5 ∧ Row wx g5 81 (cmdCs (.slice As c.spans.length cs_) (.slice Aw c.writes.length cw_) (ownF p c false)) ∧ Same (fun _ => True) wr wx)
      case first =>
        refine wp_region_tail_lit (L := [.eq (partV (.slice P0 p.cells.length p0_) (.slice P1 p.recs.length p1_) (.slice P2 p.done.length p2_) p), .eq (.slice (some ad) l.length cl), .eq (.int .i64 k), .eq (.pointer (some (ad.add (k * 14)))), .eq (cmdV (.slice As c.spans.length cs_) (.slice Aw c.writes.length cw_) c), .eq (cmdV (.slice As c.spans.length cs_) (.slice Aw c.writes.length cw_) (ownF p c false)), .of ⟨fun v w => ∃ g, v = .pointer (some ⟨g, 0, none⟩) ∧ wr.heap.size ≤ g ∧ Row w g 81 (cmdCs nilV nilV CmdM.zero), fun _ _ _ ⟨g, h1, h2, h3⟩ k => ⟨g, h1, h2, h3.keep k trivial⟩⟩]) 7 (by kernel_rfl) (by kernel_rfl) rfl rfl rfl ?_ ?_
        · refine ⟨?_, ?_, ?_, ?_, ?_, ?_, ?_, trivial⟩
          · intro ac wc hs hd hz hf hw K hK
            have e0 : ac.eval (.tmp 3) = (.pointer (some ⟨w2.heap.size, 0, none⟩)) := hf 3 rfl
            have m0 : wc.cell? ⟨w2.heap.size, 0, none⟩ = some (.int .i64 p.epoch) := hs.cell (p := ⟨w2.heap.size, 0, none⟩) trivial p0
            have m1 : wc.cell? ⟨w2.heap.size, 1, none⟩ = some (.int .i64 p.holder) := hs.cell (p := ⟨w2.heap.size, 1, none⟩) trivial p1
            have m2 : wc.cell? ⟨w2.heap.size, 2, none⟩ = some (.int .i64 p.floor.wall) := hs.cell (p := ⟨w2.heap.size, 2, none⟩) trivial p2
            have m3 : wc.cell? ⟨w2.heap.size, 3, none⟩ = some (.int .i64 p.floor.tie) := hs.cell (p := ⟨w2.heap.size, 3, none⟩) trivial p3
            have m4 : wc.cell? ⟨w2.heap.size, 4, none⟩ = some (.int .i64 p.closed) := hs.cell (p := ⟨w2.heap.size, 4, none⟩) trivial p4
            have m5 : wc.cell? ⟨w2.heap.size, 5, none⟩ = some (.int .i64 p.low) := hs.cell (p := ⟨w2.heap.size, 5, none⟩) trivial p5
            have m6 : wc.cell? ⟨w2.heap.size, 6, none⟩ = some (.slice P0 p.cells.length p0_) := hs.cell (p := ⟨w2.heap.size, 6, none⟩) trivial p6
            have m7 : wc.cell? ⟨w2.heap.size, 7, none⟩ = some (.slice P1 p.recs.length p1_) := hs.cell (p := ⟨w2.heap.size, 7, none⟩) trivial p7
            have m8 : wc.cell? ⟨w2.heap.size, 8, none⟩ = some (.slice P2 p.done.length p2_) := hs.cell (p := ⟨w2.heap.size, 8, none⟩) trivial p8
            clear hd hz hf hw
            simp only [Region.wanted, if_true, Oper.wp, execOp, resolve, List.map_toArray, List.map_cons, List.map_nil, Option.map_some, Option.map_none, e0]
            go_simp
            exact hK _ _ rfl (Same.refl _ _)
          · intro ac wc hs hd hz hf hw K hK
            have e0 : ac.eval (.tmp 0) = (.slice (some ad) l.length cl) := hf 0 rfl
            clear hd hz hf hw
            simp only [Region.wanted, if_true, Oper.wp, execOp, resolve, List.map_toArray, List.map_cons, List.map_nil, Option.map_some, Option.map_none, e0]
            go_simp
            exact hK _ _ rfl (Same.refl _ _)
          · intro ac wc hs hd hz hf hw K hK
            have e0 : ac.eval (.tmp 4) = (.int .i64 k) := hf 4 rfl
            clear hd hz hf hw
            simp only [Region.wanted, if_true, Oper.wp, execOp, resolve, List.map_toArray, List.map_cons, List.map_nil, Option.map_some, Option.map_none, e0]
            go_simp
            exact hK _ _ rfl (Same.refl _ _)
          · intro ac wc hs hd hz hf hw K hK
            have e0 : ac.eval (.tmp 27) = (.slice (some ad) l.length cl) := hw 1 rfl
            have e1 : ac.eval (.tmp 28) = (.int .i64 k) := hw 2 rfl
            clear hd hz hf hw
            simp only [Region.wanted, if_true, Oper.wp, execOp, resolve, List.map_toArray, List.map_cons, List.map_nil, Option.map_some, Option.map_none, e0, e1]
            go_simp
            exact hK _ _ rfl (Same.refl _ _)
          · intro ac wc hs hd hz hf hw K hK
            have e0 : ac.eval (.tmp 29) = (.pointer (some (ad.add (k * 14)))) := hw 3 rfl
            have m0 : wc.cell? (ad.add (k * 14)) = some (.int .i64 c.kind) := hs.cell (p := (ad.add (k * 14))) trivial c0
            have m1 : wc.cell? ⟨(ad.add (k * 14)).block, (ad.add (k * 14)).off + 1, none⟩ = some (.int .i64 c.epoch) := hs.cell (p := ⟨(ad.add (k * 14)).block, (ad.add (k * 14)).off + 1, none⟩) trivial c1
            have m2 : wc.cell? ⟨(ad.add (k * 14)).block, (ad.add (k * 14)).off + 2, none⟩ = some (.int .i64 c.node) := hs.cell (p := ⟨(ad.add (k * 14)).block, (ad.add (k * 14)).off + 2, none⟩) trivial c2
            have m3 : wc.cell? ⟨(ad.add (k * 14)).block, (ad.add (k * 14)).off + 3, none⟩ = some (.int .i64 c.home) := hs.cell (p := ⟨(ad.add (k * 14)).block, (ad.add (k * 14)).off + 3, none⟩) trivial c3
            have m4 : wc.cell? ⟨(ad.add (k * 14)).block, (ad.add (k * 14)).off + 4, none⟩ = some (.int .i64 c.by_.node) := hs.cell (p := ⟨(ad.add (k * 14)).block, (ad.add (k * 14)).off + 4, none⟩) trivial c4
            have m5 : wc.cell? ⟨(ad.add (k * 14)).block, (ad.add (k * 14)).off + 5, none⟩ = some (.int .i64 c.by_.life) := hs.cell (p := ⟨(ad.add (k * 14)).block, (ad.add (k * 14)).off + 5, none⟩) trivial c5
            have m6 : wc.cell? ⟨(ad.add (k * 14)).block, (ad.add (k * 14)).off + 6, none⟩ = some (.int .i64 c.by_.seq) := hs.cell (p := ⟨(ad.add (k * 14)).block, (ad.add (k * 14)).off + 6, none⟩) trivial c6
            have m7 : wc.cell? ⟨(ad.add (k * 14)).block, (ad.add (k * 14)).off + 7, none⟩ = some (.int .i64 c.by_.attempt) := hs.cell (p := ⟨(ad.add (k * 14)).block, (ad.add (k * 14)).off + 7, none⟩) trivial c7
            have m8 : wc.cell? ⟨(ad.add (k * 14)).block, (ad.add (k * 14)).off + 8, none⟩ = some (.int .i64 c.at_.wall) := hs.cell (p := ⟨(ad.add (k * 14)).block, (ad.add (k * 14)).off + 8, none⟩) trivial c8
            have m9 : wc.cell? ⟨(ad.add (k * 14)).block, (ad.add (k * 14)).off + 9, none⟩ = some (.int .i64 c.at_.tie) := hs.cell (p := ⟨(ad.add (k * 14)).block, (ad.add (k * 14)).off + 9, none⟩) trivial c9
            have m10 : wc.cell? ⟨(ad.add (k * 14)).block, (ad.add (k * 14)).off + 10, none⟩ = some (.int .i64 c.wall) := hs.cell (p := ⟨(ad.add (k * 14)).block, (ad.add (k * 14)).off + 10, none⟩) trivial c10
            have m11 : wc.cell? ⟨(ad.add (k * 14)).block, (ad.add (k * 14)).off + 11, none⟩ = some (.bool c.yes) := hs.cell (p := ⟨(ad.add (k * 14)).block, (ad.add (k * 14)).off + 11, none⟩) trivial c11
            have m12 : wc.cell? ⟨(ad.add (k * 14)).block, (ad.add (k * 14)).off + 12, none⟩ = some (.slice As c.spans.length cs_) := hs.cell (p := ⟨(ad.add (k * 14)).block, (ad.add (k * 14)).off + 12, none⟩) trivial c12
            have m13 : wc.cell? ⟨(ad.add (k * 14)).block, (ad.add (k * 14)).off + 13, none⟩ = some (.slice Aw c.writes.length cw_) := hs.cell (p := ⟨(ad.add (k * 14)).block, (ad.add (k * 14)).off + 13, none⟩) trivial c13
            clear hd hz hf hw
            simp only [Region.wanted, if_true, Oper.wp, execOp, resolve, List.map_toArray, List.map_cons, List.map_nil, Option.map_some, Option.map_none, e0]
            go_simp
            exact hK _ _ rfl (Same.refl _ _)
          · intro ac wc hs hd hz hf hw K hK
            have e0 : ac.eval (.tmp 26) = (partV (.slice P0 p.cells.length p0_) (.slice P1 p.recs.length p1_) (.slice P2 p.done.length p2_) p) := hw 0 rfl
            have e1 : ac.eval (.tmp 30) = (cmdV (.slice As c.spans.length cs_) (.slice Aw c.writes.length cw_) c) := hw 4 rfl
            clear hd hz hf hw
            simp only [Region.wanted, if_true, Oper.wp, execOp, resolve, List.map_toArray, List.map_cons, List.map_nil, Option.map_some, Option.map_none, e0, e1]
            go_simp
            refine (ownp_any _ _ _ _ _ p c false wc ⟨_, _, _, rfl⟩ ⟨_, _, _, rfl⟩ ⟨_, _, _, rfl⟩ ⟨_, _, _, rfl⟩ ⟨_, _, _, rfl⟩ hep).mono ?_
            rintro e wd ⟨rfl, hs2⟩
            exact hK _ _ rfl hs2
          · intro ac wc hs hd hz hf hw K hK
            clear hd hz hf hw
            simp only [Region.wanted, if_true, Oper.wp, execOp, resolve, List.map_toArray, List.map_cons, List.map_nil, Option.map_some, Option.map_none]
            go_simp
            exact hK _ _ ⟨_, rfl, hs.size, Row.new _ _ (cmdCs nilV nilV CmdM.zero)⟩ ((Same.refl _ _).alloc _)
        · intro vs wR hvl hvp hsR
          rcases vs with _ | ⟨z0, _ | ⟨z1, _ | ⟨z2, _ | ⟨z3, _ | ⟨z4, _ | ⟨z5, _ | ⟨z6, _ | ⟨zz, zr⟩⟩⟩⟩⟩⟩⟩⟩
          rotate_right 1
          · simp at hvl
          · simp at hvl
          · simp at hvl
          · simp at hvl
          · simp at hvl
          · simp at hvl
          · simp at hvl
          · simp at hvl
          · obtain rfl : z0 = (partV (.slice P0 p.cells.length p0_) (.slice P1 p.recs.length p1_) (.slice P2 p.done.length p2_) p) := hvp 0 (by omega)
            obtain rfl : z1 = (.slice (some ad) l.length cl) := hvp 1 (by omega)
            obtain rfl : z2 = (.int .i64 k) := hvp 2 (by omega)
            obtain rfl : z3 = (.pointer (some (ad.add (k * 14)))) := hvp 3 (by omega)
            obtain rfl : z4 = (cmdV (.slice As c.spans.length cs_) (.slice Aw c.writes.length cw_) c) := hvp 4 (by omega)
            obtain rfl : z5 = (cmdV (.slice As c.spans.length cs_) (.slice Aw c.writes.length cw_) (ownF p c false)) := hvp 5 (by omega)
            have hx5 : (⟨fun v w => ∃ g, v = .pointer (some ⟨g, 0, none⟩) ∧ wr.heap.size ≤ g ∧ Row w g 81 (cmdCs nilV nilV CmdM.zero), fun _ _ _ ⟨g, h1, h2, h3⟩ k => ⟨g, h1, h2, h3.keep k trivial⟩⟩ : SP).p z6 wR := hvp 6 (by omega)
            clear hvl hvp
            simp only [putAll, Act.put, List.setIfInBounds_toArray, List.set_cons_succ, List.set_cons_zero, List.take_succ_cons, List.take_zero, List.drop_succ_cons, List.drop_zero, List.eraseIdx_cons_succ, List.eraseIdx_cons_zero]
            obtain ⟨g9, rfl, hg9, r9⟩ := hx5
            have z9 := r9.lt
            have R9 := Lib.hid r9
            have l0 := r9.cell 0
            have l1 := r9.cell 1
            have l2 := r9.cell 2
            have l3 := r9.cell 3
            have l4 := r9.cell 4
            have l5 := r9.cell 5
            have l6 := r9.cell 6
            have l7 := r9.cell 7
            have l8 := r9.cell 8
            have l9 := r9.cell 9
            have l10 := r9.cell 10
            have l11 := r9.cell 11
            have l12 := r9.cell 12
            have l13 := r9.cell 13
            simp only [cmdCs, CmdM.zero, List.getElem?_cons_zero, List.getElem?_cons_succ] at l0 l1 l2 l3 l4 l5 l6 l7 l8 l9 l10 l11 l12 l13
            have h0 := r9.frozen 0
            have h1 := r9.frozen 1
            have h2 := r9.frozen 2
            have h3 := r9.frozen 3
            have h4 := r9.frozen 4
            have h5 := r9.frozen 5
            have h6 := r9.frozen 6
            have h7 := r9.frozen 7
            have h8 := r9.frozen 8
            have h9 := r9.frozen 9
            have h10 := r9.frozen 10
            have h11 := r9.frozen 11
            have h12 := r9.frozen 12
            have h13 := r9.frozen 13
            clear r9
            go_wp2
            go_meet
            exact ⟨g9, rfl, hg9, R9.out.sets (cmdCs (.slice As c.spans.length cs_) (.slice Aw c.writes.length cw_) (ownF p c false)) 0, Same.sets' hg9 (cmdCs (.slice As c.spans.length cs_) (.slice Aw c.writes.length cw_) (ownF p c false)) 0 hsR⟩
      case rest =>
        obtain ⟨g5, rfl, hg5, r5, hsR⟩ := hcut
        clear p0 p1 p2 p3 p4 p5 p6 p7 p8 c0 c1 c2 c3 c4 c5 c6 c7 c8 c9 c10 c11 c12 c13
        have HC := Lib.hid r5
        have Hg5 := Lib.hid (show w.heap.size ≤ g5 by have := HS.out.size; omega)
        have HP := Lib.hid (HP.out.keep hsR trivial)
        have HO := Lib.hid (HO.out.keepAll hsR)
        have Hsp := Lib.hid (RowR.keepAll Hsp.out hsR)
        have Hwr := Lib.hid (RowR.keepAll Hwr.out hsR)
        have HS := Lib.hid (HS.out.trans hsR)
        clear r5 hsR hg5
        have r_ := HP.out
        have p0 := r_.cell 0
        have p1 := r_.cell 1
        have p2 := r_.cell 2
        have p3 := r_.cell 3
        have p4 := r_.cell 4
        have p5 := r_.cell 5
        have p6 := r_.cell 6
        have p7 := r_.cell 7
        have p8 := r_.cell 8
        simp only [partCs, cmdCs, repCs, tryCs, stCs, wrCs, lckCs, celCs, pairCs, List.getElem?_cons_zero, List.getElem?_cons_succ] at p0 p1 p2 p3 p4 p5 p6 p7 p8
        clear r_
        have r_ := HC.out
        have c0 := r_.cell 0
        have c1 := r_.cell 1
        have c2 := r_.cell 2
        have c3 := r_.cell 3
        have c4 := r_.cell 4
        have c5 := r_.cell 5
        have c6 := r_.cell 6
        have c7 := r_.cell 7
        have c8 := r_.cell 8
        have c9 := r_.cell 9
        have c10 := r_.cell 10
        have c11 := r_.cell 11
        have c12 := r_.cell 12
        have c13 := r_.cell 13
        simp only [partCs, cmdCs, repCs, tryCs, stCs, wrCs, lckCs, celCs, pairCs, List.getElem?_cons_zero, List.getElem?_cons_succ] at c0 c1 c2 c3 c4 c5 c6 c7 c8 c9 c10 c11 c12 c13
        clear r_
        have ga := apply_any (100 * k) (fun _ => True) (.slice P0 p.cells.length p0_) (.slice P1 p.recs.length p1_) (.slice P2 p.done.length p2_) (.slice As c.spans.length cs_) (.slice Aw c.writes.length cw_) p (ownF p c false) wc (HO.out.reads.all) (Hfin.out.toN (by omega)) Hfin.out.cells (by show 100 * k + c.writes.length ≤ 100000; omega) (by omega) Hsp.out Hwr.out
        obtain ⟨QQ, EQ, hQE⟩ : ∃ Q E, applyF p (ownF p c false) = (Q, E) := ⟨_, _, rfl⟩
        rw [hQE] at ga
        have HQQ := Lib.hid hQE
        clear hQE
        go_wp2_with (go_at_call 42; refine stopAt ?_)
        unfold Hid
        refine ga.mono ?_
        rintro e w5 ⟨vc, vr, vd, vp, rfl, ho, hp, hS⟩
        clear ga
        have ho := ho.lower (B' := w.heap.size) HS.out.size
        obtain ⟨Q0, q0_, rfl, -, hb0⟩ := ho.cells.form
        obtain ⟨Q1, q1_, rfl, -, hb1⟩ := OwnR.form ho.recs
        obtain ⟨Q2, q2_, rfl, -, hb2⟩ := OwnR.form ho.done
        obtain ⟨Q3, q3_, rfl, -, hb3⟩ := OwnP.form hp
        unfold maxLen at hb0 hb1 hb2 hb3
        have rp := (Row.new w5 77 (partCs (.slice Q0 QQ.cells.length q0_) (.slice Q1 QQ.recs.length q1_) (.slice Q2 QQ.done.length q2_) QQ)).keep ((Same.refl (fun _ => True) _).alloc (.cells (repCs (.slice Q3 EQ.pairs.length q3_) EQ).toArray 85)) trivial
        have rr := Row.new (w5.alloc (.cells (partCs (.slice Q0 QQ.cells.length q0_) (.slice Q1 QQ.recs.length q1_) (.slice Q2 QQ.done.length q2_) QQ).toArray 77)) 85 (repCs (.slice Q3 EQ.pairs.length q3_) EQ)
        rw [World.size_alloc] at rr
        have hS0 := ((Same.refl (fun _ => True) w5).alloc (.cells (partCs (.slice Q0 QQ.cells.length q0_) (.slice Q1 QQ.recs.length q1_) (.slice Q2 QQ.done.length q2_) QQ).toArray 77)).alloc (.cells (repCs (.slice Q3 EQ.pairs.length q3_) EQ).toArray 85)
        go_wp2_with (with_reducible refine stopDst 38 rfl ?_)
        unfold Hid
        simp only [partCs, repCs] at rp rr hS0
        revert rp rr hS0
        generalize (w5.alloc _).alloc _ = w6
        intro rp rr hS0
        have hsv := hS.trans hS0
        have HP := Lib.hid (HP.out.keep hsv trivial)
        have HC := Lib.hid (HC.out.keep hsv trivial)
        have HO := Lib.hid (HO.out.keepAll hsv)
        have HS := Lib.hid (HS.out.trans hsv)
        have Hwr := Lib.hid (RowR.keepAll Hwr.out hsv)
        have HPQ := Lib.hid rp
        have HRQ := Lib.hid rr
        have HWQ := Lib.hid (ho.keepAll hS0)
        clear ho hp hS rp rr hS0 hsv Hsp
        clear p0 p1 p2 p3 p4 p5 p6 p7 p8
        clear c0 c1 c2 c3 c4 c5 c6 c7 c8 c9 c10 c11 c12 c13
        have r_ := HP.out
        have p0 := r_.cell 0
        have p1 := r_.cell 1
        have p2 := r_.cell 2
        have p3 := r_.cell 3
        have p4 := r_.cell 4
        have p5 := r_.cell 5
        have p6 := r_.cell 6
        have p7 := r_.cell 7
        have p8 := r_.cell 8
        simp only [partCs, cmdCs, repCs, tryCs, stCs, wrCs, lckCs, celCs, pairCs, List.getElem?_cons_zero, List.getElem?_cons_succ] at p0 p1 p2 p3 p4 p5 p6 p7 p8
        clear r_
        have r_ := HC.out
        have c0 := r_.cell 0
        have c1 := r_.cell 1
        have c2 := r_.cell 2
        have c3 := r_.cell 3
        have c4 := r_.cell 4
        have c5 := r_.cell 5
        have c6 := r_.cell 6
        have c7 := r_.cell 7
        have c8 := r_.cell 8
        have c9 := r_.cell 9
        have c10 := r_.cell 10
        have c11 := r_.cell 11
        have c12 := r_.cell 12
        have c13 := r_.cell 13
        simp only [partCs, cmdCs, repCs, tryCs, stCs, wrCs, lckCs, celCs, pairCs, List.getElem?_cons_zero, List.getElem?_cons_succ] at c0 c1 c2 c3 c4 c5 c6 c7 c8 c9 c10 c11 c12 c13
        clear r_
        go_wp2_with (go_at_call 56; refine stopAt ?_)
        unfold Hid
        refine (refmine_any (.slice P0 p.cells.length p0_) p.cells (ownF p c false).by_ _ _ HO.out.reads.cells).mono ?_
        rintro e w7 ⟨rfl, hS1⟩
        clear p0 p1 p2 p3 p4 p5 p6 p7 p8
        clear c0 c1 c2 c3 c4 c5 c6 c7 c8 c9 c10 c11 c12 c13
        have HP := Lib.hid (HP.out.keep hS1 trivial)
        have HC := Lib.hid (HC.out.keep hS1 trivial)
        have HPQ := Lib.hid (HPQ.out.keep hS1 trivial)
        have HRQ := Lib.hid (HRQ.out.keep hS1 trivial)
        have HO := Lib.hid (HO.out.keepAll hS1)
        have HWQ := Lib.hid (HWQ.out.keepAll hS1)
        have HS := Lib.hid (HS.out.trans hS1)
        have Hwr := Lib.hid (RowR.keepAll Hwr.out hS1)
        clear hS1
        have Hst2 := Lib.hid (show StepP p (ownF p c false) QQ by
          have := apply_step p (ownF p c false)
          rw [HQQ.out] at this
          exact this)
        obtain ⟨mi, hmi⟩ : ∃ mi, mineF p.cells (ownF p c false).by_ = mi := ⟨_, rfl⟩
        rw [hmi]
        have Hmi := Lib.hid hmi
        clear hmi
        obtain ⟨kd, hkd⟩ : ∃ kd, (ownF p c false).kind = kd := ⟨_, rfl⟩
        have Hkd := Lib.hid hkd
        clear hkd
        obtain ⟨ee, hee⟩ : ∃ ee, EQ.err = ee := ⟨_, rfl⟩
        have Hee := Lib.hid hee
        clear hee
        go_wp2
        go_loopw [9] (fun i wr => ∃ m : Nat, i = .int .i64 m ∧ m ≤ c.writes.length ∧ Same (fun _ => True) w7 wr) (fun i _ => c.writes.length - (intOf i).toNat)
        case atStart => exact ⟨0, rfl, Nat.zero_le _, Same.refl _ _⟩
        case round =>
          obtain ⟨m, rfl, hm, hS1⟩ := hrel
          have HP := Lib.hid (HP.out.keep hS1 trivial)
          have HC := Lib.hid (HC.out.keep hS1 trivial)
          have HPQ := Lib.hid (HPQ.out.keep hS1 trivial)
          have HRQ := Lib.hid (HRQ.out.keep hS1 trivial)
          have HO := Lib.hid (HO.out.keepAll hS1)
          have HWQ := Lib.hid (HWQ.out.keepAll hS1)
          have HS := Lib.hid (HS.out.trans hS1)
          have Hwr := Lib.hid (RowR.keepAll Hwr.out hS1)
          have HS7 := Lib.hid hS1
          clear hS1
          have c0 : wr.cell? ⟨g5, 0, none⟩ = some (.int .i64 kd) := by rw [← Hkd.out]; exact HC.out.cell 0
          have c13 : wr.cell? ⟨g5, 13, none⟩ = some (.slice Aw c.writes.length cw_) := HC.out.cell 13
          have e0 : wr.cell? ⟨w5.heap.size + 1, 0, none⟩ = some (.int .i64 ee) := by rw [← Hee.out]; exact HRQ.out.cell 0
          go_upto_region 13 with (fail)
          go_cut [61] from 43 to 60 (fun v61 wx => v61 = .bool (decide (kd = 3 ∧ ee = 0 ∧ mi = false ∧ m < c.writes.length)) ∧ wr = wx)
          case first =>
            by_cases h3 : kd = 3
            · subst h3
              by_cases h0 : ee = 0
              · subst h0
                cases mi
                · by_cases hml : (m : Int) < (c.writes.length : Int)
                  · have hb := Lib.hid (show (decide ((3 : Int) = 3 ∧ (0 : Int) = 0 ∧ false = false ∧ m < c.writes.length)) = true by simp; omega)
                    go_wp2
                    go_meet
                    exact ⟨by rw [hb.out], rfl⟩
                  · have hb := Lib.hid (show (decide ((3 : Int) = 3 ∧ (0 : Int) = 0 ∧ false = false ∧ m < c.writes.length)) = false by simp; omega)
                    go_wp2
                    go_meet
                    exact ⟨by rw [hb.out], rfl⟩
                · have hb := Lib.hid (show (decide ((3 : Int) = 3 ∧ (0 : Int) = 0 ∧ true = false ∧ m < c.writes.length)) = false by simp)
                  go_wp2
                  go_meet
                  exact ⟨by rw [hb.out], rfl⟩
              · have k2 : (ee == 0) = false := by simpa using h0
                have hb := Lib.hid (show (decide ((3 : Int) = 3 ∧ ee = 0 ∧ mi = false ∧ m < c.writes.length)) = false by simp [h0])
                clear h0
                go_wp2
                go_meet
                exact ⟨by rw [hb.out], rfl⟩
            · have k2 : (kd == 3) = false := by simpa using h3
              have hb := Lib.hid (show (decide (kd = 3 ∧ ee = 0 ∧ mi = false ∧ m < c.writes.length)) = false by simp [h3])
              clear h3
              go_wp2
              go_meet
              exact ⟨by rw [hb.out], rfl⟩
          case rest =>
            obtain ⟨rfl, rfl⟩ := hcut
            clear c0 c13 e0
            by_cases hgo : kd = 3 ∧ ee = 0 ∧ mi = false ∧ m < c.writes.length
            · rw [decide_eq_true hgo]
              obtain ⟨hk3, he0, hm0, hml⟩ := hgo
              have hok := prep_ok (p := p) (c := ownF p c false) Hfin.out.cells.good (by rw [Hkd.out]; exact hk3) (by rw [HQQ.out]; show EQ.err = 0; rw [Hee.out]; exact he0) (by rw [Hmi.out]; exact hm0) c.writes[m] (List.getElem_mem hml)
              rw [HQQ.out] at hok
              obtain ⟨hl, hh, hl1, hl2, hl3⟩ := hok
              dsimp only at hh
              obtain ⟨aw, rfl, -, k0, k1, k2⟩ := WrR.cells Hwr.out hml
              have x1 : (0 : Int) ≤ (m : Int) := by omega
              have x2 : (m : Int) < (c.writes.length : Int) := by omega
              have HfQ := Lib.hid (show FineP (100 * k + c.writes.length + 1) QQ by
                have := fine_step Hfin.out (apply_step p (ownF p c false))
                rw [HQQ.out] at this
                exact this)
              have gh := fun W (hW : Same (fun _ => True) wr W) => refheld_any (.slice Q0 QQ.cells.length q0_) QQ.cells c.writes[m].key _ W (HWQ.out.reads.cells.keepAll hW) HfQ.out.cells.good.sorted (by have := HfQ.out.cells.len (by omega); omega)
              rw [hh] at gh
              generalize c.writes[m] = x at *
              have Hl1 := Lib.hid hl1
              have Hl2 := Lib.hid hl2
              have Hl3 := Lib.hid hl3
              have Hml := Lib.hid hml
              clear hk3 he0 hm0 hh hl1 hl2 hl3 hml k1 k2
              have q6 : wr.cell? ⟨w5.heap.size, 6, none⟩ = some (.slice Q0 QQ.cells.length q0_) := HPQ.out.cell 6
              have c13 : wr.cell? ⟨g5, 13, none⟩ = some (.slice (some aw) c.writes.length cw_) := HC.out.cell 13
              go_wp2
              go_cut [10, 11] from 64 to 75 (fun v10 v11 wx => v11 = .bool true ∧ ∃ g9, v10 = .pointer (some ⟨g9, 0, none⟩) ∧ Row wx g9 30 (lckCs hl) ∧ Same (fun _ => True) wr wx)
              case first =>
                refine wp_region_tail_d (L := [.eq (.pointer (some ⟨w5.heap.size, 6, none⟩)), .eq (.slice Q0 QQ.cells.length q0_), .eq (.pointer (some ⟨g5, 13, none⟩)), .eq (.slice (some aw) c.writes.length cw_), .eq (.int .i64 m), .eq (.pointer (some (aw.add (m * 3)))), .eq (.pointer (some (aw.add (m * 3)))), .eq (.string (str x.key)), .eq (.tuple #[lckV hl, .bool true]), .eq (.tuple #[lckV hl, .bool true]), .eq (lckV hl), .eq (.bool true), .of ⟨fun v w => ∃ g, v = .pointer (some ⟨g, 0, none⟩) ∧ wr.heap.size ≤ g ∧ Row w g 30 (lckCs Lck.zero), fun _ _ _ ⟨g, h1, h2, h3⟩ k => ⟨g, h1, h2, h3.keep k trivial⟩⟩]) 13 11 (by omega) (by kernel_rfl) (by kernel_rfl) rfl rfl rfl rfl rfl rfl ?_ ?_ ?_
                · refine ⟨?_, ?_, ?_, ?_, ?_, ?_, ?_, ?_, ?_, ?_, ?_, ?_, ?_, trivial⟩
                  · intro ac wc hs hd hz hf hw K hK
                    have e0 : ac.eval (.tmp 6) = (.pointer (some ⟨w5.heap.size, 0, none⟩)) := hf 6 rfl
                    clear hd hz hf hw
                    simp only [Region.wanted, if_true, Oper.wp, execOp, resolve, List.map_toArray, List.map_cons, List.map_nil, Option.map_some, Option.map_none, e0]
                    go_simp
                    exact hK _ _ rfl (Same.refl _ _)
                  · intro ac wc hs hd hz hf hw K hK
                    have e0 : ac.eval (.tmp 65) = (.pointer (some ⟨w5.heap.size, 6, none⟩)) := hw 0 rfl
                    have m0 : wc.cell? ⟨w5.heap.size, 6, none⟩ = some (.slice Q0 QQ.cells.length q0_) := hs.cell (p := ⟨w5.heap.size, 6, none⟩) trivial q6
                    clear hd hz hf hw
                    simp only [Region.wanted, if_true, Oper.wp, execOp, resolve, List.map_toArray, List.map_cons, List.map_nil, Option.map_some, Option.map_none, e0]
                    go_simp
                    exact hK _ _ rfl (Same.refl _ _)
                  · intro ac wc hs hd hz hf hw K hK
                    have e0 : ac.eval (.tmp 5) = (.pointer (some ⟨g5, 0, none⟩)) := hf 5 rfl
                    clear hd hz hf hw
                    simp only [Region.wanted, if_true, Oper.wp, execOp, resolve, List.map_toArray, List.map_cons, List.map_nil, Option.map_some, Option.map_none, e0]
                    go_simp
                    exact hK _ _ rfl (Same.refl _ _)
                  · intro ac wc hs hd hz hf hw K hK
                    have e0 : ac.eval (.tmp 67) = (.pointer (some ⟨g5, 13, none⟩)) := hw 2 rfl
                    have m0 : wc.cell? ⟨g5, 13, none⟩ = some (.slice (some aw) c.writes.length cw_) := hs.cell (p := ⟨g5, 13, none⟩) trivial c13
                    clear hd hz hf hw
                    simp only [Region.wanted, if_true, Oper.wp, execOp, resolve, List.map_toArray, List.map_cons, List.map_nil, Option.map_some, Option.map_none, e0]
                    go_simp
                    exact hK _ _ rfl (Same.refl _ _)
                  · intro ac wc hs hd hz hf hw K hK
                    have e0 : ac.eval (.tmp 9) = (.int .i64 m) := hf 9 rfl
                    clear hd hz hf hw
                    simp only [Region.wanted, if_true, Oper.wp, execOp, resolve, List.map_toArray, List.map_cons, List.map_nil, Option.map_some, Option.map_none, e0]
                    go_simp
                    exact hK _ _ rfl (Same.refl _ _)
                  · intro ac wc hs hd hz hf hw K hK
                    have e0 : ac.eval (.tmp 68) = (.slice (some aw) c.writes.length cw_) := hw 3 rfl
                    have e1 : ac.eval (.tmp 69) = (.int .i64 m) := hw 4 rfl
                    clear hd hz hf hw
                    simp only [Region.wanted, if_true, Oper.wp, execOp, resolve, List.map_toArray, List.map_cons, List.map_nil, Option.map_some, Option.map_none, e0, e1]
                    go_simp
                    exact hK _ _ rfl (Same.refl _ _)
                  · intro ac wc hs hd hz hf hw K hK
                    have e0 : ac.eval (.tmp 70) = (.pointer (some (aw.add (m * 3)))) := hw 5 rfl
                    clear hd hz hf hw
                    simp only [Region.wanted, if_true, Oper.wp, execOp, resolve, List.map_toArray, List.map_cons, List.map_nil, Option.map_some, Option.map_none, e0]
                    go_simp
                    exact hK _ _ rfl (Same.refl _ _)
                  · intro ac wc hs hd hz hf hw K hK
                    have e0 : ac.eval (.tmp 71) = (.pointer (some (aw.add (m * 3)))) := hw 6 rfl
                    have m0 : wc.cell? (aw.add (m * 3)) = some (.string (str x.key)) := hs.cell (p := (aw.add (m * 3))) trivial k0
                    clear hd hz hf hw
                    simp only [Region.wanted, if_true, Oper.wp, execOp, resolve, List.map_toArray, List.map_cons, List.map_nil, Option.map_some, Option.map_none, e0]
                    go_simp
                    exact hK _ _ rfl (Same.refl _ _)
                  · intro ac wc hs hd hz hf hw K hK
                    have e0 : ac.eval (.tmp 66) = (.slice Q0 QQ.cells.length q0_) := hw 1 rfl
                    have e1 : ac.eval (.tmp 72) = (.string (str x.key)) := hw 7 rfl
                    clear hd hz hf hw
                    simp only [Region.wanted, if_true, Oper.wp, execOp, resolve, List.map_toArray, List.map_cons, List.map_nil, Option.map_some, Option.map_none, e0, e1]
                    go_simp
                    refine (gh wc hs).mono ?_
                    rintro e wd ⟨rfl, hs2⟩
                    exact hK _ _ rfl hs2
                  · intro ac wc hs hd hz hf hw K hK
                    have e0 : ac.eval (.tmp 73) = (.tuple #[lckV hl, .bool true]) := hw 8 rfl
                    clear hd hz hf hw
                    simp only [Region.wanted, if_true, Oper.wp, execOp, resolve, List.map_toArray, List.map_cons, List.map_nil, Option.map_some, Option.map_none, e0]
                    go_simp
                    exact hK _ _ rfl (Same.refl _ _)
                  · intro ac wc hs hd hz hf hw K hK
                    have e0 : ac.eval (.tmp 64) = (.tuple #[lckV hl, .bool true]) := hw 9 rfl
                    clear hd hz hf hw
                    simp only [Region.wanted, if_true, Oper.wp, execOp, resolve, List.map_toArray, List.map_cons, List.map_nil, Option.map_some, Option.map_none, e0]
                    go_simp
                    exact hK _ _ rfl (Same.refl _ _)
                  · intro ac wc hs hd hz hf hw K hK
                    have e0 : ac.eval (.tmp 64) = (.tuple #[lckV hl, .bool true]) := hw 9 rfl
                    clear hd hz hf hw
                    simp only [Region.wanted, if_true, Oper.wp, execOp, resolve, List.map_toArray, List.map_cons, List.map_nil, Option.map_some, Option.map_none, e0]
                    go_simp
                    exact hK _ _ rfl (Same.refl _ _)
                  · intro ac wc hs hd hz hf hw K hK
                    clear hd hz hf hw
                    simp only [Region.wanted, if_true, Oper.wp, execOp, resolve, List.map_toArray, List.map_cons, List.map_nil, Option.map_some, Option.map_none]
                    go_simp
                    exact hK _ _ ⟨_, rfl, hs.size, Row.new _ _ (lckCs Lck.zero)⟩ ((Same.refl _ _).alloc _)
                · intro vs wR hvl hvp hsR
                  rcases vs with _ | ⟨z0, _ | ⟨z1, _ | ⟨z2, _ | ⟨z3, _ | ⟨z4, _ | ⟨z5, _ | ⟨z6, _ | ⟨z7, _ | ⟨z8, _ | ⟨z9, _ | ⟨z10, _ | ⟨z11, _ | ⟨z12, _ | ⟨zz, zr⟩⟩⟩⟩⟩⟩⟩⟩⟩⟩⟩⟩⟩⟩
                  rotate_right 1
                  · simp at hvl
                  · simp at hvl
                  · simp at hvl
                  · simp at hvl
                  · simp at hvl
                  · simp at hvl
                  · simp at hvl
                  · simp at hvl
                  · simp at hvl
                  · simp at hvl
                  · simp at hvl
                  · simp at hvl
                  · simp at hvl
                  · simp at hvl
                  · obtain rfl : z0 = (.pointer (some ⟨w5.heap.size, 6, none⟩)) := hvp 0 (by omega)
                    obtain rfl : z1 = (.slice Q0 QQ.cells.length q0_) := hvp 1 (by omega)
                    obtain rfl : z2 = (.pointer (some ⟨g5, 13, none⟩)) := hvp 2 (by omega)
                    obtain rfl : z3 = (.slice (some aw) c.writes.length cw_) := hvp 3 (by omega)
                    obtain rfl : z4 = (.int .i64 m) := hvp 4 (by omega)
                    obtain rfl : z5 = (.pointer (some (aw.add (m * 3)))) := hvp 5 (by omega)
                    obtain rfl : z6 = (.pointer (some (aw.add (m * 3)))) := hvp 6 (by omega)
                    obtain rfl : z7 = (.string (str x.key)) := hvp 7 (by omega)
                    obtain rfl : z8 = (.tuple #[lckV hl, .bool true]) := hvp 8 (by omega)
                    obtain rfl : z9 = (.tuple #[lckV hl, .bool true]) := hvp 9 (by omega)
                    obtain rfl : z10 = (lckV hl) := hvp 10 (by omega)
                    obtain rfl : z11 = (.bool true) := hvp 11 (by omega)
                    have hxl : (⟨fun v w => ∃ g, v = .pointer (some ⟨g, 0, none⟩) ∧ wr.heap.size ≤ g ∧ Row w g 30 (lckCs Lck.zero), fun _ _ _ ⟨g, h1, h2, h3⟩ k => ⟨g, h1, h2, h3.keep k trivial⟩⟩ : SP).p z12 wR := hvp 12 (by omega)
                    clear hvl hvp
                    simp only [putAll, Act.put, List.setIfInBounds_toArray, List.set_cons_succ, List.set_cons_zero, List.take_succ_cons, List.take_zero, List.drop_succ_cons, List.drop_zero, List.eraseIdx_cons_succ, List.eraseIdx_cons_zero]
                    obtain ⟨g9, rfl, hg9, r9⟩ := hxl
                    have z9 := r9.lt
                    have R9 := Lib.hid r9
                    have l0 := r9.cell 0
                    have l1 := r9.cell 1
                    have l2 := r9.cell 2
                    have l3 := r9.cell 3
                    have l4 := r9.cell 4
                    have l5 := r9.cell 5
                    have l6 := r9.cell 6
                    have l7 := r9.cell 7
                    have l8 := r9.cell 8
                    simp only [lckCs, Lck.zero, List.getElem?_cons_zero, List.getElem?_cons_succ] at l0 l1 l2 l3 l4 l5 l6 l7 l8
                    have h0 := r9.frozen 0
                    have h1 := r9.frozen 1
                    have h2 := r9.frozen 2
                    have h3 := r9.frozen 3
                    have h4 := r9.frozen 4
                    have h5 := r9.frozen 5
                    have h6 := r9.frozen 6
                    have h7 := r9.frozen 7
                    have h8 := r9.frozen 8
                    clear r9
                    go_wp2
                    go_meet
                    exact ⟨rfl, g9, rfl, R9.out.sets (lckCs hl) 0, Same.sets' (by omega) (lckCs hl) 0 hsR⟩
                · intro vs wR hvl hvp hsR
                  rcases vs with _ | ⟨z0, _ | ⟨z1, _ | ⟨z2, _ | ⟨z3, _ | ⟨z4, _ | ⟨z5, _ | ⟨z6, _ | ⟨z7, _ | ⟨z8, _ | ⟨z9, _ | ⟨z10, _ | ⟨z12, _ | ⟨zz, zr⟩⟩⟩⟩⟩⟩⟩⟩⟩⟩⟩⟩⟩
                  rotate_right 1
                  · simp at hvl
                  · simp at hvl
                  · simp at hvl
                  · simp at hvl
                  · simp at hvl
                  · simp at hvl
                  · simp at hvl
                  · simp at hvl
                  · simp at hvl
                  · simp at hvl
                  · simp at hvl
                  · simp at hvl
                  · simp at hvl
                  · obtain rfl : z0 = (.pointer (some ⟨w5.heap.size, 6, none⟩)) := hvp 0 (by omega)
                    obtain rfl : z1 = (.slice Q0 QQ.cells.length q0_) := hvp 1 (by omega)
                    obtain rfl : z2 = (.pointer (some ⟨g5, 13, none⟩)) := hvp 2 (by omega)
                    obtain rfl : z3 = (.slice (some aw) c.writes.length cw_) := hvp 3 (by omega)
                    obtain rfl : z4 = (.int .i64 m) := hvp 4 (by omega)
                    obtain rfl : z5 = (.pointer (some (aw.add (m * 3)))) := hvp 5 (by omega)
                    obtain rfl : z6 = (.pointer (some (aw.add (m * 3)))) := hvp 6 (by omega)
                    obtain rfl : z7 = (.string (str x.key)) := hvp 7 (by omega)
                    obtain rfl : z8 = (.tuple #[lckV hl, .bool true]) := hvp 8 (by omega)
                    obtain rfl : z9 = (.tuple #[lckV hl, .bool true]) := hvp 9 (by omega)
                    obtain rfl : z10 = (lckV hl) := hvp 10 (by omega)
                    have hxl : (⟨fun v w => ∃ g, v = .pointer (some ⟨g, 0, none⟩) ∧ wr.heap.size ≤ g ∧ Row w g 30 (lckCs Lck.zero), fun _ _ _ ⟨g, h1, h2, h3⟩ k => ⟨g, h1, h2, h3.keep k trivial⟩⟩ : SP).p z12 wR := hvp 11 (by omega)
                    clear hvl hvp
                    simp only [putAll, Act.put, List.setIfInBounds_toArray, List.set_cons_succ, List.set_cons_zero, List.take_succ_cons, List.take_zero, List.drop_succ_cons, List.drop_zero, List.eraseIdx_cons_succ, List.eraseIdx_cons_zero]
                    obtain ⟨g9, rfl, hg9, r9⟩ := hxl
                    have z9 := r9.lt
                    have R9 := Lib.hid r9
                    have l0 := r9.cell 0
                    have l1 := r9.cell 1
                    have l2 := r9.cell 2
                    have l3 := r9.cell 3
                    have l4 := r9.cell 4
                    have l5 := r9.cell 5
                    have l6 := r9.cell 6
                    have l7 := r9.cell 7
                    have l8 := r9.cell 8
                    simp only [lckCs, Lck.zero, List.getElem?_cons_zero, List.getElem?_cons_succ] at l0 l1 l2 l3 l4 l5 l6 l7 l8
                    have h0 := r9.frozen 0
                    have h1 := r9.frozen 1
                    have h2 := r9.frozen 2
                    have h3 := r9.frozen 3
                    have h4 := r9.frozen 4
                    have h5 := r9.frozen 5
                    have h6 := r9.frozen 6
                    have h7 := r9.frozen 7
                    have h8 := r9.frozen 8
                    clear r9
                    go_wp2
                    go_meet
                    exact ⟨rfl, g9, rfl, R9.out.sets (lckCs hl) 0, Same.sets' (by omega) (lckCs hl) 0 hsR⟩
              case rest =>
                obtain ⟨rfl, g9, rfl, hr9, hS1⟩ := hcut
                have HL := Lib.hid hr9
                have HS8 := Lib.hid (HS7.out.trans hS1)
                have HP := Lib.hid (HP.out.keep hS1 trivial)
                have HC := Lib.hid (HC.out.keep hS1 trivial)
                have HPQ := Lib.hid (HPQ.out.keep hS1 trivial)
                have HRQ := Lib.hid (HRQ.out.keep hS1 trivial)
                have HO := Lib.hid (HO.out.keepAll hS1)
                have HWQ := Lib.hid (HWQ.out.keepAll hS1)
                have HS := Lib.hid (HS.out.trans hS1)
                have Hwr := Lib.hid (RowR.keepAll Hwr.out hS1)
                clear hr9 hS1 q6 c13 k0 gh
                have r_ := HL.out
                have l0 := r_.cell 0
                have l1 := r_.cell 1
                have l2 := r_.cell 2
                have l3 := r_.cell 3
                have l4 := r_.cell 4
                have l5 := r_.cell 5
                have l6 := r_.cell 6
                have l7 := r_.cell 7
                have l8 := r_.cell 8
                simp only [partCs, cmdCs, repCs, tryCs, stCs, wrCs, lckCs, celCs, pairCs, List.getElem?_cons_zero, List.getElem?_cons_succ] at l0 l1 l2 l3 l4 l5 l6 l7 l8
                clear r_
                have r_ := HC.out
                have c0 := r_.cell 0
                have c1 := r_.cell 1
                have c2 := r_.cell 2
                have c3 := r_.cell 3
                have c4 := r_.cell 4
                have c5 := r_.cell 5
                have c6 := r_.cell 6
                have c7 := r_.cell 7
                have c8 := r_.cell 8
                have c9 := r_.cell 9
                have c10 := r_.cell 10
                have c11 := r_.cell 11
                have c12 := r_.cell 12
                have c13 := r_.cell 13
                simp only [partCs, cmdCs, repCs, tryCs, stCs, wrCs, lckCs, celCs, pairCs, List.getElem?_cons_zero, List.getElem?_cons_succ] at c0 c1 c2 c3 c4 c5 c6 c7 c8 c9 c10 c11 c12 c13
                clear r_
                rw [← Hl2.out] at c8 c9
                rw [← Hl1.out] at c4 c5 c6 c7
                rw [← Hl3.out] at c3
                go_wp2
                go_roundw
                case rel => exact ⟨m + 1, by go_num, by have := Hml.out; omega, HS8.out⟩
                case measure => have := Hml.out; simp [intOf]; omega
            · rw [decide_eq_false hgo]
              clear hgo
              go_upto_region 18 with (fail)
              go_cut [114] from 99 to 113 (fun v114 wx => v114 = .bool false ∧ Same (fun _ => True) wr wx)
              case first =>
                have c0 : wr.cell? ⟨g5, 0, none⟩ = some (.int .i64 kd) := by rw [← Hkd.out]; exact HC.out.cell 0
                have e0 : wr.cell? ⟨w5.heap.size + 1, 0, none⟩ = some (.int .i64 ee) := by rw [← Hee.out]; exact HRQ.out.cell 0
                have p6 : wr.cell? ⟨w2.heap.size, 6, none⟩ = some (.slice P0 p.cells.length p0_) := HP.out.cell 6
                have q6 : wr.cell? ⟨w5.heap.size, 6, none⟩ = some (.slice Q0 QQ.cells.length q0_) := HPQ.out.cell 6
                by_cases h3 : kd = 3
                · subst h3
                  by_cases h0 : ee = 0
                  · subst h0
                    go_wp2
                    go_meet
                    exact ⟨rfl, Same.refl _ _⟩
                  · have k2 : (ee != 0) = true := by simpa using h0
                    have hqp : QQ = p := by
                      have := apply_err (p := p) (c := ownF p c false) (by rw [HQQ.out]; show EQ.err ≠ 0; rw [Hee.out]; exact h0)
                      rw [HQQ.out] at this
                      exact this
                    have hq' : CelR wr (fun k => w.heap.size ≤ k) (.slice Q0 QQ.cells.length q0_) p.cells := by
                      have h := HWQ.out.reads.cells
                      rw [show QQ.cells = p.cells by rw [hqp]] at h ⊢
                      exact h
                    have gs := same_any (.slice P0 p.cells.length p0_) (.slice Q0 QQ.cells.length q0_) p.cells _ _ wr HO.out.reads.cells hq' (Hfin.out.cells.len (by omega)) (Hfin.out.cells.vers (by omega))
                    clear h0 hqp hq'
                    go_wp2_with (go_at_call 29; refine stopAt ?_)
                    unfold Hid
                    refine gs.mono ?_
                    rintro e wx ⟨rfl, hSx⟩
                    have HSx := Lib.hid hSx
                    clear gs hSx c0 e0 p6 q6
                    go_wp2
                    go_meet
                    exact ⟨rfl, HSx.out⟩
                · have k2 : (kd == 3) = false := by simpa using h3
                  clear h3
                  go_wp2
                  go_meet
                  exact ⟨rfl, Same.refl _ _⟩
              case rest =>
                obtain ⟨rfl, hS1⟩ := hcut
                have HP := Lib.hid (HP.out.keep hS1 trivial)
                have HC := Lib.hid (HC.out.keep hS1 trivial)
                have HPQ := Lib.hid (HPQ.out.keep hS1 trivial)
                have HRQ := Lib.hid (HRQ.out.keep hS1 trivial)
                have HO := Lib.hid (HO.out.keepAll hS1)
                have HWQ := Lib.hid (HWQ.out.keepAll hS1)
                have HS := Lib.hid (HS.out.trans hS1)
                have Hwr := Lib.hid (RowR.keepAll Hwr.out hS1)
                clear hS1 HS7
                go_wp2
                obtain ⟨wo, rfl⟩ : ∃ wo : World, wo = wc := ⟨_, rfl⟩
                go_loopw [12] (fun i wr => ∃ m : Nat, i = .int .i64 m ∧ m ≤ p.cells.length ∧ Same (fun _ => True) wo wr) (fun i _ => p.cells.length - (intOf i).toNat)
                case atStart => exact ⟨0, rfl, Nat.zero_le _, Same.refl _ _⟩
                case round =>
                  obtain ⟨m, rfl, hm, hS1⟩ := hrel
                  have HP := Lib.hid (HP.out.keep hS1 trivial)
                  have HC := Lib.hid (HC.out.keep hS1 trivial)
                  have HPQ := Lib.hid (HPQ.out.keep hS1 trivial)
                  have HRQ := Lib.hid (HRQ.out.keep hS1 trivial)
                  have HO := Lib.hid (HO.out.keepAll hS1)
                  have HWQ := Lib.hid (HWQ.out.keepAll hS1)
                  have HS := Lib.hid (HS.out.trans hS1)
                  have Hwr := Lib.hid (RowR.keepAll Hwr.out hS1)
                  have HSo := Lib.hid hS1
                  clear hS1
                  by_cases hml : m < p.cells.length
                  · obtain ⟨ap, u, hap, -, hvr, k0, k1, k2, k3, k4, k5, k6, k7, k8, k9, k10, k11⟩ := CelR.cells12 HO.out.reads.cells hml
                    subst hap
                    have hlk : p.cells[m].locked = true → ¬ ((ownF p c false).kind = 5 ∧ (ownF p c false).by_ = p.cells[m].lock.by_) → heldF QQ.cells p.cells[m].key = (p.cells[m].lock, true) := fun h1 h2 => locks_step Hfin.out.cells.good Hst2.out (List.getElem_mem hml) h1 h2
                    have x1 : (0 : Int) ≤ (m : Int) := by omega
                    have x2 : (m : Int) < (p.cells.length : Int) := by omega
                    have HfQ := Lib.hid (show FineP (100 * k + c.writes.length + 1) QQ by
                      have := fine_step Hfin.out (apply_step p (ownF p c false))
                      rw [HQQ.out] at this
                      exact this)
                    obtain ⟨hl, is_, hh⟩ : ∃ a b, heldF QQ.cells p.cells[m].key = (a, b) := ⟨_, _, rfl⟩
                    have gh := fun W (hW : Same (fun _ => True) wr W) => refheld_any (.slice Q0 QQ.cells.length q0_) QQ.cells p.cells[m].key _ W (HWQ.out.reads.cells.keepAll hW) HfQ.out.cells.good.sorted (by have := HfQ.out.cells.len (by omega); omega)
                    rw [hh] at gh hlk
                    generalize p.cells[m] = x at *
                    have Hlk := Lib.hid hlk
                    have Hml := Lib.hid hml
                    clear hvr hlk hh hml
                    have q6 : wr.cell? ⟨w5.heap.size, 6, none⟩ = some (.slice Q0 QQ.cells.length q0_) := HPQ.out.cell 6
                    have p6 : wr.cell? ⟨w2.heap.size, 6, none⟩ = some (.slice (some ap) p.cells.length p0_) := HP.out.cell 6
                    go_wp2
                    go_cut [13, 14] from 122 to 133 (fun v13 v14 wx => v14 = .bool is_ ∧ ∃ g9, v13 = .pointer (some ⟨g9, 0, none⟩) ∧ Row wx g9 30 (lckCs hl) ∧ Same (fun _ => True) wr wx)
                    case first =>
                      refine wp_region_tail_d (L := [.eq (.pointer (some ⟨w5.heap.size, 6, none⟩)), .eq (.slice Q0 QQ.cells.length q0_), .eq (.pointer (some ⟨w2.heap.size, 6, none⟩)), .eq (.slice (some ap) p.cells.length p0_), .eq (.int .i64 m), .eq (.pointer (some (ap.add (m * 12)))), .eq (.pointer (some (ap.add (m * 12)))), .eq (.string (str x.key)), .eq (.tuple #[lckV hl, .bool is_]), .eq (.tuple #[lckV hl, .bool is_]), .eq (lckV hl), .eq (.bool is_), .of ⟨fun v w => ∃ g, v = .pointer (some ⟨g, 0, none⟩) ∧ wr.heap.size ≤ g ∧ Row w g 30 (lckCs Lck.zero), fun _ _ _ ⟨g, h1, h2, h3⟩ k => ⟨g, h1, h2, h3.keep k trivial⟩⟩]) 13 11 (by omega) (by kernel_rfl) (by kernel_rfl) rfl rfl rfl rfl rfl rfl ?_ ?_ ?_
                      · refine ⟨?_, ?_, ?_, ?_, ?_, ?_, ?_, ?_, ?_, ?_, ?_, ?_, ?_, trivial⟩
                        · intro ac wc hs hd hz hf hw K hK
                          have e0 : ac.eval (.tmp 6) = (.pointer (some ⟨w5.heap.size, 0, none⟩)) := hf 6 rfl
                          clear hd hz hf hw
                          simp only [Region.wanted, if_true, Oper.wp, execOp, resolve, List.map_toArray, List.map_cons, List.map_nil, Option.map_some, Option.map_none, e0]
                          go_simp
                          exact hK _ _ rfl (Same.refl _ _)
                        · intro ac wc hs hd hz hf hw K hK
                          have e0 : ac.eval (.tmp 123) = (.pointer (some ⟨w5.heap.size, 6, none⟩)) := hw 0 rfl
                          have m0 : wc.cell? ⟨w5.heap.size, 6, none⟩ = some (.slice Q0 QQ.cells.length q0_) := hs.cell (p := ⟨w5.heap.size, 6, none⟩) trivial q6
                          clear hd hz hf hw
                          simp only [Region.wanted, if_true, Oper.wp, execOp, resolve, List.map_toArray, List.map_cons, List.map_nil, Option.map_some, Option.map_none, e0]
                          go_simp
                          exact hK _ _ rfl (Same.refl _ _)
                        · intro ac wc hs hd hz hf hw K hK
                          have e0 : ac.eval (.tmp 3) = (.pointer (some ⟨w2.heap.size, 0, none⟩)) := hf 3 rfl
                          clear hd hz hf hw
                          simp only [Region.wanted, if_true, Oper.wp, execOp, resolve, List.map_toArray, List.map_cons, List.map_nil, Option.map_some, Option.map_none, e0]
                          go_simp
                          exact hK _ _ rfl (Same.refl _ _)
                        · intro ac wc hs hd hz hf hw K hK
                          have e0 : ac.eval (.tmp 125) = (.pointer (some ⟨w2.heap.size, 6, none⟩)) := hw 2 rfl
                          have m0 : wc.cell? ⟨w2.heap.size, 6, none⟩ = some (.slice (some ap) p.cells.length p0_) := hs.cell (p := ⟨w2.heap.size, 6, none⟩) trivial p6
                          clear hd hz hf hw
                          simp only [Region.wanted, if_true, Oper.wp, execOp, resolve, List.map_toArray, List.map_cons, List.map_nil, Option.map_some, Option.map_none, e0]
                          go_simp
                          exact hK _ _ rfl (Same.refl _ _)
                        · intro ac wc hs hd hz hf hw K hK
                          have e0 : ac.eval (.tmp 12) = (.int .i64 m) := hf 12 rfl
                          clear hd hz hf hw
                          simp only [Region.wanted, if_true, Oper.wp, execOp, resolve, List.map_toArray, List.map_cons, List.map_nil, Option.map_some, Option.map_none, e0]
                          go_simp
                          exact hK _ _ rfl (Same.refl _ _)
                        · intro ac wc hs hd hz hf hw K hK
                          have e0 : ac.eval (.tmp 126) = (.slice (some ap) p.cells.length p0_) := hw 3 rfl
                          have e1 : ac.eval (.tmp 127) = (.int .i64 m) := hw 4 rfl
                          clear hd hz hf hw
                          simp only [Region.wanted, if_true, Oper.wp, execOp, resolve, List.map_toArray, List.map_cons, List.map_nil, Option.map_some, Option.map_none, e0, e1]
                          go_simp
                          exact hK _ _ rfl (Same.refl _ _)
                        · intro ac wc hs hd hz hf hw K hK
                          have e0 : ac.eval (.tmp 128) = (.pointer (some (ap.add (m * 12)))) := hw 5 rfl
                          clear hd hz hf hw
                          simp only [Region.wanted, if_true, Oper.wp, execOp, resolve, List.map_toArray, List.map_cons, List.map_nil, Option.map_some, Option.map_none, e0]
                          go_simp
                          exact hK _ _ rfl (Same.refl _ _)
                        · intro ac wc hs hd hz hf hw K hK
                          have e0 : ac.eval (.tmp 129) = (.pointer (some (ap.add (m * 12)))) := hw 6 rfl
                          have m0 : wc.cell? (ap.add (m * 12)) = some (.string (str x.key)) := hs.cell (p := (ap.add (m * 12))) trivial k0
                          clear hd hz hf hw
                          simp only [Region.wanted, if_true, Oper.wp, execOp, resolve, List.map_toArray, List.map_cons, List.map_nil, Option.map_some, Option.map_none, e0]
                          go_simp
                          exact hK _ _ rfl (Same.refl _ _)
                        · intro ac wc hs hd hz hf hw K hK
                          have e0 : ac.eval (.tmp 124) = (.slice Q0 QQ.cells.length q0_) := hw 1 rfl
                          have e1 : ac.eval (.tmp 130) = (.string (str x.key)) := hw 7 rfl
                          clear hd hz hf hw
                          simp only [Region.wanted, if_true, Oper.wp, execOp, resolve, List.map_toArray, List.map_cons, List.map_nil, Option.map_some, Option.map_none, e0, e1]
                          go_simp
                          refine (gh wc hs).mono ?_
                          rintro e wd ⟨rfl, hs2⟩
                          exact hK _ _ rfl hs2
                        · intro ac wc hs hd hz hf hw K hK
                          have e0 : ac.eval (.tmp 131) = (.tuple #[lckV hl, .bool is_]) := hw 8 rfl
                          clear hd hz hf hw
                          simp only [Region.wanted, if_true, Oper.wp, execOp, resolve, List.map_toArray, List.map_cons, List.map_nil, Option.map_some, Option.map_none, e0]
                          go_simp
                          exact hK _ _ rfl (Same.refl _ _)
                        · intro ac wc hs hd hz hf hw K hK
                          have e0 : ac.eval (.tmp 122) = (.tuple #[lckV hl, .bool is_]) := hw 9 rfl
                          clear hd hz hf hw
                          simp only [Region.wanted, if_true, Oper.wp, execOp, resolve, List.map_toArray, List.map_cons, List.map_nil, Option.map_some, Option.map_none, e0]
                          go_simp
                          exact hK _ _ rfl (Same.refl _ _)
                        · intro ac wc hs hd hz hf hw K hK
                          have e0 : ac.eval (.tmp 122) = (.tuple #[lckV hl, .bool is_]) := hw 9 rfl
                          clear hd hz hf hw
                          simp only [Region.wanted, if_true, Oper.wp, execOp, resolve, List.map_toArray, List.map_cons, List.map_nil, Option.map_some, Option.map_none, e0]
                          go_simp
                          exact hK _ _ rfl (Same.refl _ _)
                        · intro ac wc hs hd hz hf hw K hK
                          clear hd hz hf hw
                          simp only [Region.wanted, if_true, Oper.wp, execOp, resolve, List.map_toArray, List.map_cons, List.map_nil, Option.map_some, Option.map_none]
                          go_simp
                          exact hK _ _ ⟨_, rfl, hs.size, Row.new _ _ (lckCs Lck.zero)⟩ ((Same.refl _ _).alloc _)
                      · intro vs wR hvl hvp hsR
                        rcases vs with _ | ⟨z0, _ | ⟨z1, _ | ⟨z2, _ | ⟨z3, _ | ⟨z4, _ | ⟨z5, _ | ⟨z6, _ | ⟨z7, _ | ⟨z8, _ | ⟨z9, _ | ⟨z10, _ | ⟨z11, _ | ⟨z12, _ | ⟨zz, zr⟩⟩⟩⟩⟩⟩⟩⟩⟩⟩⟩⟩⟩⟩
                        rotate_right 1
                        · simp at hvl
                        · simp at hvl
                        · simp at hvl
                        · simp at hvl
                        · simp at hvl
                        · simp at hvl
                        · simp at hvl
                        · simp at hvl
                        · simp at hvl
                        · simp at hvl
                        · simp at hvl
                        · simp at hvl
                        · simp at hvl
                        · simp at hvl
                        · obtain rfl : z0 = (.pointer (some ⟨w5.heap.size, 6, none⟩)) := hvp 0 (by omega)
                          obtain rfl : z1 = (.slice Q0 QQ.cells.length q0_) := hvp 1 (by omega)
                          obtain rfl : z2 = (.pointer (some ⟨w2.heap.size, 6, none⟩)) := hvp 2 (by omega)
                          obtain rfl : z3 = (.slice (some ap) p.cells.length p0_) := hvp 3 (by omega)
                          obtain rfl : z4 = (.int .i64 m) := hvp 4 (by omega)
                          obtain rfl : z5 = (.pointer (some (ap.add (m * 12)))) := hvp 5 (by omega)
                          obtain rfl : z6 = (.pointer (some (ap.add (m * 12)))) := hvp 6 (by omega)
                          obtain rfl : z7 = (.string (str x.key)) := hvp 7 (by omega)
                          obtain rfl : z8 = (.tuple #[lckV hl, .bool is_]) := hvp 8 (by omega)
                          obtain rfl : z9 = (.tuple #[lckV hl, .bool is_]) := hvp 9 (by omega)
                          obtain rfl : z10 = (lckV hl) := hvp 10 (by omega)
                          obtain rfl : z11 = (.bool is_) := hvp 11 (by omega)
                          have hxl : (⟨fun v w => ∃ g, v = .pointer (some ⟨g, 0, none⟩) ∧ wr.heap.size ≤ g ∧ Row w g 30 (lckCs Lck.zero), fun _ _ _ ⟨g, h1, h2, h3⟩ k => ⟨g, h1, h2, h3.keep k trivial⟩⟩ : SP).p z12 wR := hvp 12 (by omega)
                          clear hvl hvp
                          simp only [putAll, Act.put, List.setIfInBounds_toArray, List.set_cons_succ, List.set_cons_zero, List.take_succ_cons, List.take_zero, List.drop_succ_cons, List.drop_zero, List.eraseIdx_cons_succ, List.eraseIdx_cons_zero]
                          obtain ⟨g9, rfl, hg9, r9⟩ := hxl
                          have z9 := r9.lt
                          have R9 := Lib.hid r9
                          have l0 := r9.cell 0
                          have l1 := r9.cell 1
                          have l2 := r9.cell 2
                          have l3 := r9.cell 3
                          have l4 := r9.cell 4
                          have l5 := r9.cell 5
                          have l6 := r9.cell 6
                          have l7 := r9.cell 7
                          have l8 := r9.cell 8
                          simp only [lckCs, Lck.zero, List.getElem?_cons_zero, List.getElem?_cons_succ] at l0 l1 l2 l3 l4 l5 l6 l7 l8
                          have h0 := r9.frozen 0
                          have h1 := r9.frozen 1
                          have h2 := r9.frozen 2
                          have h3 := r9.frozen 3
                          have h4 := r9.frozen 4
                          have h5 := r9.frozen 5
                          have h6 := r9.frozen 6
                          have h7 := r9.frozen 7
                          have h8 := r9.frozen 8
                          clear r9
                          go_wp2
                          go_meet
                          exact ⟨rfl, g9, rfl, R9.out.sets (lckCs hl) 0, Same.sets' (by omega) (lckCs hl) 0 hsR⟩
                      · intro vs wR hvl hvp hsR
                        rcases vs with _ | ⟨z0, _ | ⟨z1, _ | ⟨z2, _ | ⟨z3, _ | ⟨z4, _ | ⟨z5, _ | ⟨z6, _ | ⟨z7, _ | ⟨z8, _ | ⟨z9, _ | ⟨z10, _ | ⟨z12, _ | ⟨zz, zr⟩⟩⟩⟩⟩⟩⟩⟩⟩⟩⟩⟩⟩
                        rotate_right 1
                        · simp at hvl
                        · simp at hvl
                        · simp at hvl
                        · simp at hvl
                        · simp at hvl
                        · simp at hvl
                        · simp at hvl
                        · simp at hvl
                        · simp at hvl
                        · simp at hvl
                        · simp at hvl
                        · simp at hvl
                        · simp at hvl
                        · obtain rfl : z0 = (.pointer (some ⟨w5.heap.size, 6, none⟩)) := hvp 0 (by omega)
                          obtain rfl : z1 = (.slice Q0 QQ.cells.length q0_) := hvp 1 (by omega)
                          obtain rfl : z2 = (.pointer (some ⟨w2.heap.size, 6, none⟩)) := hvp 2 (by omega)
                          obtain rfl : z3 = (.slice (some ap) p.cells.length p0_) := hvp 3 (by omega)
                          obtain rfl : z4 = (.int .i64 m) := hvp 4 (by omega)
                          obtain rfl : z5 = (.pointer (some (ap.add (m * 12)))) := hvp 5 (by omega)
                          obtain rfl : z6 = (.pointer (some (ap.add (m * 12)))) := hvp 6 (by omega)
                          obtain rfl : z7 = (.string (str x.key)) := hvp 7 (by omega)
                          obtain rfl : z8 = (.tuple #[lckV hl, .bool is_]) := hvp 8 (by omega)
                          obtain rfl : z9 = (.tuple #[lckV hl, .bool is_]) := hvp 9 (by omega)
                          obtain rfl : z10 = (lckV hl) := hvp 10 (by omega)
                          have hxl : (⟨fun v w => ∃ g, v = .pointer (some ⟨g, 0, none⟩) ∧ wr.heap.size ≤ g ∧ Row w g 30 (lckCs Lck.zero), fun _ _ _ ⟨g, h1, h2, h3⟩ k => ⟨g, h1, h2, h3.keep k trivial⟩⟩ : SP).p z12 wR := hvp 11 (by omega)
                          clear hvl hvp
                          simp only [putAll, Act.put, List.setIfInBounds_toArray, List.set_cons_succ, List.set_cons_zero, List.take_succ_cons, List.take_zero, List.drop_succ_cons, List.drop_zero, List.eraseIdx_cons_succ, List.eraseIdx_cons_zero]
                          obtain ⟨g9, rfl, hg9, r9⟩ := hxl
                          have z9 := r9.lt
                          have R9 := Lib.hid r9
                          have l0 := r9.cell 0
                          have l1 := r9.cell 1
                          have l2 := r9.cell 2
                          have l3 := r9.cell 3
                          have l4 := r9.cell 4
                          have l5 := r9.cell 5
                          have l6 := r9.cell 6
                          have l7 := r9.cell 7
                          have l8 := r9.cell 8
                          simp only [lckCs, Lck.zero, List.getElem?_cons_zero, List.getElem?_cons_succ] at l0 l1 l2 l3 l4 l5 l6 l7 l8
                          have h0 := r9.frozen 0
                          have h1 := r9.frozen 1
                          have h2 := r9.frozen 2
                          have h3 := r9.frozen 3
                          have h4 := r9.frozen 4
                          have h5 := r9.frozen 5
                          have h6 := r9.frozen 6
                          have h7 := r9.frozen 7
                          have h8 := r9.frozen 8
                          clear r9
                          go_wp2
                          go_meet
                          exact ⟨rfl, g9, rfl, R9.out.sets (lckCs hl) 0, Same.sets' (by omega) (lckCs hl) 0 hsR⟩
                    case rest =>
                      obtain ⟨rfl, g9, rfl, hr9, hS1⟩ := hcut
                      have HL := Lib.hid hr9
                      have HSo := Lib.hid (HSo.out.trans hS1)
                      have k0 := hS1.cell (p := ap.add (m * 12)) trivial k0
                      have k1 := hS1.cell (p := ⟨(ap.add (m * 12)).block, (ap.add (m * 12)).off + 1, none⟩) trivial k1
                      have k2 := hS1.cell (p := ⟨(ap.add (m * 12)).block, (ap.add (m * 12)).off + 2, none⟩) trivial k2
                      have k3 := hS1.cell (p := ⟨(ap.add (m * 12)).block, (ap.add (m * 12)).off + 3, none⟩) trivial k3
                      have k4 := hS1.cell (p := ⟨(ap.add (m * 12)).block, (ap.add (m * 12)).off + 4, none⟩) trivial k4
                      have k5 := hS1.cell (p := ⟨(ap.add (m * 12)).block, (ap.add (m * 12)).off + 5, none⟩) trivial k5
                      have k6 := hS1.cell (p := ⟨(ap.add (m * 12)).block, (ap.add (m * 12)).off + 6, none⟩) trivial k6
                      have k7 := hS1.cell (p := ⟨(ap.add (m * 12)).block, (ap.add (m * 12)).off + 7, none⟩) trivial k7
                      have k8 := hS1.cell (p := ⟨(ap.add (m * 12)).block, (ap.add (m * 12)).off + 8, none⟩) trivial k8
                      have k9 := hS1.cell (p := ⟨(ap.add (m * 12)).block, (ap.add (m * 12)).off + 9, none⟩) trivial k9
                      have k10 := hS1.cell (p := ⟨(ap.add (m * 12)).block, (ap.add (m * 12)).off + 10, none⟩) trivial k10
                      have k11 := hS1.cell (p := ⟨(ap.add (m * 12)).block, (ap.add (m * 12)).off + 11, none⟩) trivial k11
                      have HP := Lib.hid (HP.out.keep hS1 trivial)
                      have HC := Lib.hid (HC.out.keep hS1 trivial)
                      have HPQ := Lib.hid (HPQ.out.keep hS1 trivial)
                      have HRQ := Lib.hid (HRQ.out.keep hS1 trivial)
                      have HO := Lib.hid (HO.out.keepAll hS1)
                      have HWQ := Lib.hid (HWQ.out.keepAll hS1)
                      have HS := Lib.hid (HS.out.trans hS1)
                      have Hwr := Lib.hid (RowR.keepAll Hwr.out hS1)
                      clear hr9 hS1 q6 p6 gh
                      have hneq := lck_ne
                      have hteq := try_run
                      go_upto_region 24 with (fail)
                      go_cut [171] from 134 to 170 (fun v171 wx => v171 = .bool false ∧ Same (fun _ => True) wc wx)
                      case first =>
                        have r_ := HL.out
                        have l0 := r_.cell 0
                        have l1 := r_.cell 1
                        have l2 := r_.cell 2
                        have l3 := r_.cell 3
                        have l4 := r_.cell 4
                        have l5 := r_.cell 5
                        have l6 := r_.cell 6
                        have l7 := r_.cell 7
                        have l8 := r_.cell 8
                        simp only [partCs, cmdCs, repCs, tryCs, stCs, wrCs, lckCs, celCs, pairCs, List.getElem?_cons_zero, List.getElem?_cons_succ] at l0 l1 l2 l3 l4 l5 l6 l7 l8
                        clear r_
                        have r_ := HC.out
                        have c0 := r_.cell 0
                        have c1 := r_.cell 1
                        have c2 := r_.cell 2
                        have c3 := r_.cell 3
                        have c4 := r_.cell 4
                        have c5 := r_.cell 5
                        have c6 := r_.cell 6
                        have c7 := r_.cell 7
                        have c8 := r_.cell 8
                        have c9 := r_.cell 9
                        have c10 := r_.cell 10
                        have c11 := r_.cell 11
                        have c12 := r_.cell 12
                        have c13 := r_.cell 13
                        simp only [partCs, cmdCs, repCs, tryCs, stCs, wrCs, lckCs, celCs, pairCs, List.getElem?_cons_zero, List.getElem?_cons_succ] at c0 c1 c2 c3 c4 c5 c6 c7 c8 c9 c10 c11 c12 c13
                        clear r_
                        have p6 : wc.cell? ⟨w2.heap.size, 6, none⟩ = some (.slice (some ap) p.cells.length p0_) := HP.out.cell 6
                        rcases (by cases x.locked <;> simp : x.locked = true ∨ x.locked = false) with hlo | hlo
                        · rw [hlo] at k2
                          by_cases h5 : (ownF p c false).kind = 5 ∧ (ownF p c false).by_ = x.lock.by_
                          · have t1 : ((ownF p c false).kind == 5) = true := by simp [h5.1]
                            have t2 := fun W => hteq (ownF p c false).by_ x.lock.by_ W
                            rw [show ((ownF p c false).by_ == x.lock.by_) = true by simp [h5.2]] at t2
                            clear h5 hlo hneq hteq
                            go_quiet (fail)
                            go_wp2
                            go_meet
                            exact ⟨rfl, (Same.refl _ _).drewN _⟩
                          · have he := Hlk.out hlo h5
                            injection he with he1 he2
                            subst he1 he2
                            have t3 := fun W => hneq x.lock W
                            by_cases h6 : (ownF p c false).kind = 5
                            · have t1 : ((ownF p c false).kind == 5) = true := by simp [h6]
                              have t2 := fun W => hteq (ownF p c false).by_ x.lock.by_ W
                              rw [show ((ownF p c false).by_ == x.lock.by_) = false by simpa using fun h => h5 ⟨h6, h⟩] at t2
                              clear h5 h6 hlo hneq hteq
                              go_quiet (fail)
                              go_wp2
                              go_meet
                              exact ⟨rfl, (Same.refl _ _).drewN _⟩
                            · have t1 : ((ownF p c false).kind == 5) = false := by simpa using h6
                              clear h5 h6 hlo hneq hteq
                              go_quiet (fail)
                              go_wp2
                              go_meet
                              exact ⟨rfl, (Same.refl _ _).drewN _⟩
                        · rw [hlo] at k2
                          clear hlo hneq hteq
                          go_quiet (fail)
                          go_wp2
                          go_meet
                          exact ⟨rfl, (Same.refl _ _).drewN _⟩
                      case rest =>
                        obtain ⟨rfl, hS1⟩ := hcut
                        have HSo := Lib.hid (HSo.out.trans hS1)
                        clear hS1 hneq hteq k0 k1 k2 k3 k4 k5 k6 k7 k8 k9 k10 k11
                        go_wp2
                        go_roundw
                        case rel => exact ⟨m + 1, by go_num, by have := Hml.out; omega, HSo.out⟩
                        case measure => have := Hml.out; simp [intOf]; omega
                  · obtain rfl : m = p.cells.length := by omega
                    clear hml
                    have r_ := HPQ.out
                    have q0 := r_.cell 0
                    have q1 := r_.cell 1
                    have q2 := r_.cell 2
                    have q3 := r_.cell 3
                    have q4 := r_.cell 4
                    have q5 := r_.cell 5
                    have q6 := r_.cell 6
                    have q7 := r_.cell 7
                    have q8 := r_.cell 8
                    simp only [partCs, cmdCs, repCs, tryCs, stCs, wrCs, lckCs, celCs, pairCs, List.getElem?_cons_zero, List.getElem?_cons_succ] at q0 q1 q2 q3 q4 q5 q6 q7 q8
                    clear r_
                    have r_ := HP.out
                    have p0 := r_.cell 0
                    have p1 := r_.cell 1
                    have p2 := r_.cell 2
                    have p3 := r_.cell 3
                    have p4 := r_.cell 4
                    have p5 := r_.cell 5
                    have p6 := r_.cell 6
                    have p7 := r_.cell 7
                    have p8 := r_.cell 8
                    simp only [partCs, cmdCs, repCs, tryCs, stCs, wrCs, lckCs, celCs, pairCs, List.getElem?_cons_zero, List.getElem?_cons_succ] at p0 p1 p2 p3 p4 p5 p6 p7 p8
                    clear r_
                    have r_ := HP.out
                    have f0 := r_.frozen 0
                    have f1 := r_.frozen 1
                    have f2 := r_.frozen 2
                    have f3 := r_.frozen 3
                    have f4 := r_.frozen 4
                    have f5 := r_.frozen 5
                    have f6 := r_.frozen 6
                    have f7 := r_.frozen 7
                    have f8 := r_.frozen 8
                    have z_f := r_.lt
                    clear r_
                    go_wp2
                    have q5 := HP.out.sets (partCs (.slice Q0 QQ.cells.length q0_) (.slice Q1 QQ.recs.length q1_) (.slice Q2 QQ.done.length q2_) QQ) 0
                    have s5 := Same.sets (S := fun q => q ≠ w2.heap.size) (g := w2.heap.size) (fun h => h rfl) (partCs (.slice Q0 QQ.cells.length q0_) (.slice Q1 QQ.recs.length q1_) (.slice Q2 QQ.done.length q2_) QQ) 0 (Same.refl _ wr)
                    have hqe : runP (l.take (k + 1)) = QQ := by rw [Hst.out]; unfold stepF; rw [HQQ.out]
                    go_roundw
                    case rel => exact ⟨k + 1, _, _, _, by go_num, by omega, by rw [hqe]; exact q5, by rw [hqe]; exact HWQ.out.keepG HP.out s5, Same.sets' HZ.out (partCs (.slice Q0 QQ.cells.length q0_) (.slice Q1 QQ.recs.length q1_) (.slice Q2 QQ.done.length q2_) QQ) 0 HS.out⟩
                    case measure => simp [intOf]; omega
    · obtain rfl : k = l.length := by omega
      clear hS hrow
      have HO := Lib.hid hown
      clear hown
      rw [List.take_length] at HO HP Hfin
      have Hfin := Hfin
      generalize runP l = p at *
      obtain ⟨P0, p0_, rfl, hq1, hq2⟩ := HO.out.cells.form
      obtain ⟨P1, p1_, rfl, hq3, hq4⟩ := OwnR.form HO.out.recs
      obtain ⟨P2, p2_, rfl, hq5, hq6⟩ := OwnR.form HO.out.done
      unfold maxLen at hq2 hq4 hq6
      have r_ := HP.out
      have p0 := r_.cell 0
      have p1 := r_.cell 1
      have p2 := r_.cell 2
      have p3 := r_.cell 3
      have p4 := r_.cell 4
      have p5 := r_.cell 5
      have p6 := r_.cell 6
      have p7 := r_.cell 7
      have p8 := r_.cell 8
      simp only [partCs, cmdCs, repCs, tryCs, stCs, wrCs, lckCs, celCs, pairCs, List.getElem?_cons_zero, List.getElem?_cons_succ] at p0 p1 p2 p3 p4 p5 p6 p7 p8
      clear r_
      go_wp2_with (go_at_call 36; refine stopAt ?_)
      unfold Hid
      refine (lightf_any (.slice P0 p.cells.length p0_) p.cells _ _ HO.out.reads.cells).mono ?_
      rintro e w9 ⟨b, rfl, hb, rfl⟩
      cases b
      case true =>
        go_wp2
        go_ret
        exact ⟨rfl, HS.out⟩
      have hpn : 0 < p.cells.length := by
        rcases Nat.eq_zero_or_pos p.cells.length with h | h
        · have := hb (List.eq_nil_of_length_eq_zero h)
          cases this
        · exact h
      clear hb
      go_wp2
      go_ret
      exact ⟨rfl, HS.out⟩
end Go.Proofs.Ytoldelocfmpccaa
