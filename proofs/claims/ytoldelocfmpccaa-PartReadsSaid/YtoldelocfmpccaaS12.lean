/-
  Words, plain models, laws and walks that the claims of this layer share (joined by shake.py). No condition.
-/
import Derived.Test.YtoldelocfmpccaaS1
import Derived.Test.YtoldelocfmpccaaS2
import Derived.Test.YtoldelocfmpccaaS3
import Derived.Test.YtoldelocfmpccaaS4
import Derived.Test.YtoldelocfmpccaaS5
import Derived.Test.YtoldelocfmpccaaS6
import Derived.Test.YtoldelocfmpccaaS7
import Derived.Test.YtoldelocfmpccaaS8
import Derived.Test.YtoldelocfmpccaaS9
import Derived.Test.YtoldelocfmpccaaS10
import Derived.Test.YtoldelocfmpccaaS11
set_option linter.unusedSimpArgs false
set_option linter.unusedVariables false
namespace Go.Proofs.Ytoldelocfmpccaa
open Go.RowKit
/-- What Apply leaves, and answers. -/
def ApplyP (r : PartM × ReplyM) (w : World) (e : Ending) (w' : World) : Prop := ∃ vc vr vd vp, e = .returned (.tuple #[partV vc vr vd r.1, repV vp r.2]) ∧ OwnPart w' w.heap.size vc vr vd r.1 ∧ OwnP w' w.heap.size vp r.2.pairs ∧ Same (fun _ => True) w w'
theorem apply_results {W : World} {k j : Nat} {vc vr vd vp : Value} {p : PartM} {r : ReplyM} (Q : Row W j 77 (partCs vc vr vd p)) (R : Row W k 85 (repCs vp r)) {tmps : Array Value} (h1 : tmps.getD 4 undef = .pointer (some ⟨j, 0, none⟩)) (h2 : tmps.getD 5 undef = .pointer (some ⟨k, 0, none⟩)) :
    (results Try.f42 tmps).run Try.prog W = .ok (.tuple #[partV vc vr vd p, repV vp r]) W := by
  have d0 := R.cell 0
  have d1 := R.cell 1
  have d2 := R.cell 2
  have d3 := R.cell 3
  have d4 := R.cell 4
  have d5 := R.cell 5
  have d6 := R.cell 6
  have d7 := R.cell 7
  have d8 := R.cell 8
  have d9 := R.cell 9
  have d10 := R.cell 10
  have q0 := Q.cell 0
  have q1 := Q.cell 1
  have q2 := Q.cell 2
  have q3 := Q.cell 3
  have q4 := Q.cell 4
  have q5 := Q.cell 5
  have q6 := Q.cell 6
  have q7 := Q.cell 7
  have q8 := Q.cell 8
  simp only [repCs, partCs, List.getElem?_cons_zero, List.getElem?_cons_succ] at d0 d1 d2 d3 d4 d5 d6 d7 d8 d9 d10 q0 q1 q2 q3 q4 q5 q6 q7 q8
  simp at h1 h2
  simp [results, Try.results42, h1, h2, go_sem, d0, d1, d2, d3, d4, d5, d6, d7, d8, d9, d10, q0, q1, q2, q3, q4, q5, q6, q7, q8]
set_option maxRecDepth 100000 in
set_option maxHeartbeats 8000000 in
theorem apply_any (N : Nat) (S : Nat → Prop) (vc vr vd vs vw : Value) (p : PartM) (c : CmdM) (w : World) (hv : PartR w S vc vr vd p) (hn : PartN p) (hf : Fine N p.cells) (hN : N + c.writes.length ≤ 100000) (hep : -9223372036854775808 ≤ p.epoch ∧ p.epoch ≤ 9223372036854775807) (hsp : SpanR w S vs c.spans) (hwr : WrR w S vw c.writes) :
    Calls Try.prog 42 #[partV vc vr vd p, cmdV vs vw c] w (ApplyP (applyF p c) w) := by
  have hsp : SpanR w (fun k => k < w.heap.size) vs c.spans := hsp.mono (by omega) fun k h _ => h
  have hwr : WrR w (fun k => k < w.heap.size) vw c.writes := hwr.mono (by omega) fun k h _ => h
  have Hv := Lib.hid hv
  obtain ⟨A0, c0_, rfl, -, hb0⟩ := hv.cells.form
  obtain ⟨A1, c1_, rfl, -, hb1⟩ := OutR.form hv.recs
  obtain ⟨A2, c2_, rfl, -, hb2⟩ := OutR.form hv.done
  obtain ⟨As, cs_, rfl, hs1, hs2⟩ := SpanR.form hsp
  obtain ⟨Aw, cw_, rfl, hw1, hw2⟩ := WrR.form hwr
  have Hsp := Lib.hid hsp
  have Hwr := Lib.hid hwr
  have Hn := Lib.hid hn
  have Hf := Lib.hid hf
  have Hep := Lib.hid hep
  unfold maxLen at hb0 hb1 hb2 hs2 hw2
  clear hv hsp hwr hn hf
  have r0 := (((Row.new w 77 (partCs (.slice A0 p.cells.length c0_) (.slice A1 p.recs.length c1_) (.slice A2 p.done.length c2_) p)).keep ((Same.refl (fun _ => True) _).alloc (.cells (cmdCs (.slice As c.spans.length cs_) (.slice Aw c.writes.length cw_) c).toArray 81)) trivial).keep ((Same.refl (fun _ => True) _).alloc (.cells (zeroPart).toArray 77)) trivial).keep ((Same.refl (fun _ => True) _).alloc (.cells (repCs nilV ReplyM.zero).toArray 85)) trivial
  have r1 := ((Row.new (w.alloc (.cells (partCs (.slice A0 p.cells.length c0_) (.slice A1 p.recs.length c1_) (.slice A2 p.done.length c2_) p).toArray 77)) 81 (cmdCs (.slice As c.spans.length cs_) (.slice Aw c.writes.length cw_) c)).keep ((Same.refl (fun _ => True) _).alloc (.cells (zeroPart).toArray 77)) trivial).keep ((Same.refl (fun _ => True) _).alloc (.cells (repCs nilV ReplyM.zero).toArray 85)) trivial
  rw [World.size_alloc] at r1
  have r2 := (Row.new ((w.alloc (.cells (partCs (.slice A0 p.cells.length c0_) (.slice A1 p.recs.length c1_) (.slice A2 p.done.length c2_) p).toArray 77)).alloc (.cells (cmdCs (.slice As c.spans.length cs_) (.slice Aw c.writes.length cw_) c).toArray 81)) 77 (zeroPart)).keep ((Same.refl (fun _ => True) _).alloc (.cells (repCs nilV ReplyM.zero).toArray 85)) trivial
  rw [World.size_alloc, World.size_alloc] at r2
  have r3 := Row.new (((w.alloc (.cells (partCs (.slice A0 p.cells.length c0_) (.slice A1 p.recs.length c1_) (.slice A2 p.done.length c2_) p).toArray 77)).alloc (.cells (cmdCs (.slice As c.spans.length cs_) (.slice Aw c.writes.length cw_) c).toArray 81)).alloc (.cells (zeroPart).toArray 77)) 85 (repCs nilV ReplyM.zero)
  rw [World.size_alloc, World.size_alloc, World.size_alloc] at r3
  have hS0 := ((((Same.refl (fun _ => True) w).alloc (.cells (partCs (.slice A0 p.cells.length c0_) (.slice A1 p.recs.length c1_) (.slice A2 p.done.length c2_) p).toArray 77)).alloc (.cells (cmdCs (.slice As c.spans.length cs_) (.slice Aw c.writes.length cw_) c).toArray 81)).alloc (.cells (zeroPart).toArray 77)).alloc (.cells (repCs nilV ReplyM.zero).toArray 85)
  go_enter Try.func42, Try.ntmps42
  go_wp2_with (with_reducible refine stopDst 8 rfl ?_)
  unfold Hid
  simp only [partCs, cmdCs, repCs, ReplyM.zero, zeroPart] at r0 r1 r2 r3 hS0
  revert r0 r1 r2 r3 hS0
  generalize (((w.alloc _).alloc _).alloc _).alloc _ = w1
  intro r0 r1 r2 r3 hS0
  have hv1 := Lib.hid (Hv.out.keepAll hS0)
  have R0 := Lib.hid r0
  have R1 := Lib.hid r1
  have R2 := Lib.hid r2
  have R3 := Lib.hid r3
  have HS0 := Lib.hid hS0
  have p0 := r0.cell 0
  have p1 := r0.cell 1
  have p2 := r0.cell 2
  have p3 := r0.cell 3
  have p4 := r0.cell 4
  have p5 := r0.cell 5
  have p6 := r0.cell 6
  have p7 := r0.cell 7
  have p8 := r0.cell 8
  simp only [List.getElem?_cons_zero, List.getElem?_cons_succ] at p0 p1 p2 p3 p4 p5 p6 p7 p8
  have z0 := r0.lt
  have z3 := r3.lt
  clear r0 r1 r2 r3 hS0
  go_wp2_with (go_at_call 76; refine stopAt ?_)
  unfold Hid
  refine (twin_any _ _ _ p S w1 hv1.out Hn.out).mono ?_
  rintro e w2 ⟨vc, vr, vd, rfl, hown, hS⟩
  obtain ⟨Ac, cc, rfl, hc1, hc2⟩ := hown.cells.form
  obtain ⟨Ar, cr, rfl, hr1, hr2⟩ := OwnR.form hown.recs
  obtain ⟨Ad, cd, rfl, hd1, hd2⟩ := OwnR.form hown.done
  have hB := hS.size
  obtain ⟨B, hBe⟩ : ∃ B, B = w1.heap.size := ⟨_, rfl⟩
  rw [← hBe] at hown hB z3
  have Hown := Lib.hid hown
  have HS := Lib.hid (HS0.out.trans hS)
  have R0 := Lib.hid (R0.out.keep hS trivial)
  have R1 := Lib.hid (R1.out.keep hS trivial)
  have R2 := Lib.hid (R2.out.keep hS trivial)
  have R3 := Lib.hid (R3.out.keep hS trivial)
  unfold maxLen at hc2 hr2 hd2
  clear hown hS hv1 HS0 p0 p1 p2 p3 p4 p5 p6 p7 p8 z0 hBe
  have g0 := (Row.new w2 77 (partCs (.slice Ac p.cells.length cc) (.slice Ar p.recs.length cr) (.slice Ad p.done.length cd) p)).keep ((Same.refl (fun _ => True) _).alloc (.cells (repCs nilV ReplyM.zero).toArray 85)) trivial
  have g1 := Row.new (w2.alloc (.cells (partCs (.slice Ac p.cells.length cc) (.slice Ar p.recs.length cr) (.slice Ad p.done.length cd) p).toArray 77)) 85 (repCs nilV ReplyM.zero)
  rw [World.size_alloc] at g1
  have gS := ((Same.refl (fun _ => True) w2).alloc (.cells (partCs (.slice Ac p.cells.length cc) (.slice Ar p.recs.length cr) (.slice Ad p.done.length cd) p).toArray 77)).alloc (.cells (repCs nilV ReplyM.zero).toArray 85)
  go_wp2_with (with_reducible refine stopDst 15 rfl ?_)
  unfold Hid
  simp only [partCs, repCs, ReplyM.zero] at g0 g1 gS
  revert g0 g1 gS
  generalize (w2.alloc _).alloc _ = w3
  intro g0 g1 gS
  have HS := Lib.hid (HS.out.trans gS)
  have R0 := Lib.hid (R0.out.keep gS trivial)
  have R1 := Lib.hid (R1.out.keep gS trivial)
  have R2 := Lib.hid (R2.out.keep gS trivial)
  have R3 := Lib.hid (R3.out.keep gS trivial)
  have G0 := Lib.hid g0
  have G1 := Lib.hid g1
  have Hown := Lib.hid (Hown.out.keepAll gS)
  have r0 := R0.out
  have r1 := R1.out
  have p0 := r0.cell 0
  have p1 := r0.cell 1
  have p2 := r0.cell 2
  have p3 := r0.cell 3
  have p4 := r0.cell 4
  have p5 := r0.cell 5
  have p6 := r0.cell 6
  have p7 := r0.cell 7
  have p8 := r0.cell 8
  simp only [List.getElem?_cons_zero, List.getElem?_cons_succ] at p0 p1 p2 p3 p4 p5 p6 p7 p8
  have c0 := r1.cell 0
  have c1 := r1.cell 1
  have c2 := r1.cell 2
  have c3 := r1.cell 3
  have c4 := r1.cell 4
  have c5 := r1.cell 5
  have c6 := r1.cell 6
  have c7 := r1.cell 7
  have c8 := r1.cell 8
  have c9 := r1.cell 9
  have c10 := r1.cell 10
  have c11 := r1.cell 11
  have c12 := r1.cell 12
  have c13 := r1.cell 13
  simp only [List.getElem?_cons_zero, List.getElem?_cons_succ] at c0 c1 c2 c3 c4 c5 c6 c7 c8 c9 c10 c11 c12 c13
  have rr0 := g1.cell 0
  have rr1 := g1.cell 1
  have rr2 := g1.cell 2
  have rr3 := g1.cell 3
  have rr4 := g1.cell 4
  have rr5 := g1.cell 5
  have rr6 := g1.cell 6
  have rr7 := g1.cell 7
  have rr8 := g1.cell 8
  have rr9 := g1.cell 9
  have rr10 := g1.cell 10
  simp only [List.getElem?_cons_zero, List.getElem?_cons_succ] at rr0 rr1 rr2 rr3 rr4 rr5 rr6 rr7 rr8 rr9 rr10
  have f0 := g1.frozen 0
  have f1 := g1.frozen 1
  have f2 := g1.frozen 2
  have f3 := g1.frozen 3
  have f4 := g1.frozen 4
  have f5 := g1.frozen 5
  have f6 := g1.frozen 6
  have f7 := g1.frozen 7
  have f8 := g1.frozen 8
  have f9 := g1.frozen 9
  have f10 := g1.frozen 10
  have z4 := g1.lt
  clear g0 g1 gS r0 r1
  go_wp2_with (first | (go_at_call 77; refine stopAt ?_) | (go_at_call 78; refine stopAt ?_) | (with_reducible refine stopDst 32 rfl ?_))
  · unfold Hid
    obtain ⟨Q, R, hA⟩ : ∃ Q R, leaseF p c = (Q, R) := ⟨_, _, rfl⟩
    have HR := Lib.hid (show applyR p c = (Q, R) by
      unfold applyR
      rw [if_pos (by simpa using (‹(c.kind == 1) = true›))]
      exact hA)
    have gl := lease_any w2.heap.size B (.slice Ac p.cells.length cc) (.slice Ar p.recs.length cr) (.slice Ad p.done.length cd) (.slice As c.spans.length cs_) (.slice Aw c.writes.length cw_) p c w3 G0.out Hown.out hB (by omega) Hep.out
    rw [hA] at gl
    clear hA
    refine gl.mono ?_
    rintro e w4 ⟨vq, vr', vd', vp, rfl, hrow, hoQ, hpair, hsd⟩
    obtain ⟨Ap, cp, rfl, -, -⟩ := OwnP.form hpair
    obtain ⟨Aq, cq, rfl, -, -⟩ := hoQ.cells.form
    obtain ⟨Bq, dq, rfl, -, -⟩ := OwnR.form hoQ.recs
    obtain ⟨Cq, eq_, rfl, -, -⟩ := OwnR.form hoQ.done
    have G1 := Lib.hid (G1.out.keep hsd (Hown.out.sdRow G1.out (by decide) (by omega)))
    have R0 := Lib.hid (R0.out.keep hsd (Hown.out.sd hB (by omega)))
    have R2 := Lib.hid (R2.out.keep hsd (Hown.out.sd hB (by omega)))
    have R3 := Lib.hid (R3.out.keep hsd (Hown.out.sd hB (by omega)))
    have HS := Lib.hid (HS.out.trans' hsd fun k hk _ => Hown.out.sd hB (by omega))
    have HRow := Lib.hid hrow
    have HoQ := Lib.hid hoQ
    have HpR := Lib.hid hpair
    clear p0 p1 p2 p3 p4 p5 p6 p7 p8 c0 c1 c2 c3 c4 c5 c6 c7 c8 c9 c10 c11 c12 c13 rr0 f0 rr1 f1 rr2 f2 rr3 f3 rr4 f4 rr5 f5 rr6 f6 rr7 f7 rr8 f8 rr9 f9 rr10 f10 z4
    clear hrow hoQ hpair hsd gl
    have r1 := G1.out
    have rr0 := r1.cell 0
    have rr1 := r1.cell 1
    have rr2 := r1.cell 2
    have rr3 := r1.cell 3
    have rr4 := r1.cell 4
    have rr5 := r1.cell 5
    have rr6 := r1.cell 6
    have rr7 := r1.cell 7
    have rr8 := r1.cell 8
    have rr9 := r1.cell 9
    have rr10 := r1.cell 10
    simp only [List.getElem?_cons_zero, List.getElem?_cons_succ] at rr0 rr1 rr2 rr3 rr4 rr5 rr6 rr7 rr8 rr9 rr10
    have f0 := r1.frozen 0
    have f1 := r1.frozen 1
    have f2 := r1.frozen 2
    have f3 := r1.frozen 3
    have f4 := r1.frozen 4
    have f5 := r1.frozen 5
    have f6 := r1.frozen 6
    have f7 := r1.frozen 7
    have f8 := r1.frozen 8
    have f9 := r1.frozen 9
    have f10 := r1.frozen 10
    have z4 := r1.lt
    clear r1
    go_wp2_with (with_reducible refine stopDst 32 rfl ?_)
    unfold Hid
    have s5 := Same.sets (S := fun q => q ≠ w2.heap.size + 1) (g := w2.heap.size + 1) (fun h => h rfl) (repCs (.slice Ap R.pairs.length cp) R) 0 (Same.refl _ w4)
    have q5 := G1.out.sets (repCs (.slice Ap R.pairs.length cp) R) 0
    clear rr0 f0 rr1 f1 rr2 f2 rr3 f3 rr4 f4 rr5 f5 rr6 f6 rr7 f7 rr8 f8 rr9 f9 rr10 f10 z4
    obtain ⟨w5, hw5⟩ : ∃ w5, w5 = setsW w4 (w2.heap.size + 1) 0 (repCs (.slice Ap R.pairs.length cp) R) := ⟨_, rfl⟩
    rw [← hw5] at s5 q5
    simp only [setsW, repCs, Nat.zero_add, Nat.reduceAdd] at hw5
    rw [← hw5]
    clear hw5
    have HS := Lib.hid (HS.out.trans' s5 fun k hk _ => by omega)
    have HoQ := Lib.hid (HoQ.out.keepRep G1.out s5)
    have HpR := Lib.hid (OwnR.keepG HpR.out G1.out (by decide) s5)
    have G0 := Lib.hid (HRow.out.keep s5 (by omega))
    have R0 := Lib.hid (R0.out.keep s5 (by omega))
    have R2 := Lib.hid (R2.out.keep s5 (by omega))
    have R3 := Lib.hid (R3.out.keep s5 (by omega))
    have G1 := Lib.hid (show Row w5 (w2.heap.size + 1) 85 (repCs (.slice Ap R.pairs.length cp) R) from q5)
    clear s5 q5 HRow
    have r1 := G1.out
    have r0 := R0.out
    have rr0 := r1.cell 0
    have rr1 := r1.cell 1
    have rr2 := r1.cell 2
    have rr3 := r1.cell 3
    have rr4 := r1.cell 4
    have rr5 := r1.cell 5
    have rr6 := r1.cell 6
    have rr7 := r1.cell 7
    have rr8 := r1.cell 8
    have rr9 := r1.cell 9
    have rr10 := r1.cell 10
    simp only [repCs, List.getElem?_cons_zero, List.getElem?_cons_succ] at rr0 rr1 rr2 rr3 rr4 rr5 rr6 rr7 rr8 rr9 rr10
    have p0 := r0.cell 0
    have p1 := r0.cell 1
    have p2 := r0.cell 2
    have p3 := r0.cell 3
    have p4 := r0.cell 4
    have p5 := r0.cell 5
    have p6 := r0.cell 6
    have p7 := r0.cell 7
    have p8 := r0.cell 8
    simp only [List.getElem?_cons_zero, List.getElem?_cons_succ] at p0 p1 p2 p3 p4 p5 p6 p7 p8
    have z4 := r1.lt
    clear r1 r0
    by_cases hz : R.err = 0
    · have k9 : (R.err == 0) = true := by simp [hz]
      have HF := Lib.hid (show applyF p c = (Q, R) by
        unfold applyF
        rw [HR.out]
        exact if_pos hz)
      clear hz
      have r0 := G0.out
      have q0 := r0.cell 0
      have q1 := r0.cell 1
      have q2 := r0.cell 2
      have q3 := r0.cell 3
      have q4 := r0.cell 4
      have q5 := r0.cell 5
      have q6 := r0.cell 6
      have q7 := r0.cell 7
      have q8 := r0.cell 8
      simp only [partCs, List.getElem?_cons_zero, List.getElem?_cons_succ] at q0 q1 q2 q3 q4 q5 q6 q7 q8
      clear r0
      go_wp2
      refine wp_region_tail_d (L := [.eq (partV (.slice Aq Q.cells.length cq) (.slice Bq Q.recs.length dq) (.slice Cq Q.done.length eq_) Q), .eq (repV (.slice Ap R.pairs.length cp) R)]) 2 1 (by omega) (by kernel_rfl) (by kernel_rfl) rfl rfl rfl rfl rfl rfl ?_ ?_ ?_
      · refine ⟨?_, ?_, trivial⟩
        · intro ac wc hs hd hz hf hw K hK
          have e0 : ac.eval (.tmp 6) = (.pointer (some ⟨w2.heap.size, 0, none⟩)) := hf 6 rfl
          have m0 : wc.cell? ⟨w2.heap.size, 0, none⟩ = some (.int .i64 Q.epoch) := hs.cell (p := ⟨w2.heap.size, 0, none⟩) trivial q0
          have m1 : wc.cell? ⟨w2.heap.size, 1, none⟩ = some (.int .i64 Q.holder) := hs.cell (p := ⟨w2.heap.size, 1, none⟩) trivial q1
          have m2 : wc.cell? ⟨w2.heap.size, 2, none⟩ = some (.int .i64 Q.floor.wall) := hs.cell (p := ⟨w2.heap.size, 2, none⟩) trivial q2
          have m3 : wc.cell? ⟨w2.heap.size, 3, none⟩ = some (.int .i64 Q.floor.tie) := hs.cell (p := ⟨w2.heap.size, 3, none⟩) trivial q3
          have m4 : wc.cell? ⟨w2.heap.size, 4, none⟩ = some (.int .i64 Q.closed) := hs.cell (p := ⟨w2.heap.size, 4, none⟩) trivial q4
          have m5 : wc.cell? ⟨w2.heap.size, 5, none⟩ = some (.int .i64 Q.low) := hs.cell (p := ⟨w2.heap.size, 5, none⟩) trivial q5
          have m6 : wc.cell? ⟨w2.heap.size, 6, none⟩ = some (.slice Aq Q.cells.length cq) := hs.cell (p := ⟨w2.heap.size, 6, none⟩) trivial q6
          have m7 : wc.cell? ⟨w2.heap.size, 7, none⟩ = some (.slice Bq Q.recs.length dq) := hs.cell (p := ⟨w2.heap.size, 7, none⟩) trivial q7
          have m8 : wc.cell? ⟨w2.heap.size, 8, none⟩ = some (.slice Cq Q.done.length eq_) := hs.cell (p := ⟨w2.heap.size, 8, none⟩) trivial q8
          clear hd hz hf hw
          simp only [Region.wanted, if_true, Oper.wp, execOp, resolve, List.map_toArray, List.map_cons, List.map_nil, Option.map_some, Option.map_none, e0]
          go_simp
          exact hK _ _ rfl (Same.refl _ _)
        · intro ac wc hs hd hz hf hw K hK
          have e0 : ac.eval (.tmp 7) = (.pointer (some ⟨w2.heap.size + 1, 0, none⟩)) := hf 7 rfl
          have m0 : wc.cell? ⟨w2.heap.size + 1, 0, none⟩ = some (.int .i64 R.err) := hs.cell (p := ⟨w2.heap.size + 1, 0, none⟩) trivial rr0
          have m1 : wc.cell? ⟨w2.heap.size + 1, 1, none⟩ = some (.slice Ap R.pairs.length cp) := hs.cell (p := ⟨w2.heap.size + 1, 1, none⟩) trivial rr1
          have m2 : wc.cell? ⟨w2.heap.size + 1, 2, none⟩ = some (.int .i64 R.by_.node) := hs.cell (p := ⟨w2.heap.size + 1, 2, none⟩) trivial rr2
          have m3 : wc.cell? ⟨w2.heap.size + 1, 3, none⟩ = some (.int .i64 R.by_.life) := hs.cell (p := ⟨w2.heap.size + 1, 3, none⟩) trivial rr3
          have m4 : wc.cell? ⟨w2.heap.size + 1, 4, none⟩ = some (.int .i64 R.by_.seq) := hs.cell (p := ⟨w2.heap.size + 1, 4, none⟩) trivial rr4
          have m5 : wc.cell? ⟨w2.heap.size + 1, 5, none⟩ = some (.int .i64 R.by_.attempt) := hs.cell (p := ⟨w2.heap.size + 1, 5, none⟩) trivial rr5
          have m6 : wc.cell? ⟨w2.heap.size + 1, 6, none⟩ = some (.int .i64 R.home) := hs.cell (p := ⟨w2.heap.size + 1, 6, none⟩) trivial rr6
          have m7 : wc.cell? ⟨w2.heap.size + 1, 7, none⟩ = some (.int .i64 R.at_.wall) := hs.cell (p := ⟨w2.heap.size + 1, 7, none⟩) trivial rr7
          have m8 : wc.cell? ⟨w2.heap.size + 1, 8, none⟩ = some (.int .i64 R.at_.tie) := hs.cell (p := ⟨w2.heap.size + 1, 8, none⟩) trivial rr8
          have m9 : wc.cell? ⟨w2.heap.size + 1, 9, none⟩ = some (.int .i64 R.wall) := hs.cell (p := ⟨w2.heap.size + 1, 9, none⟩) trivial rr9
          have m10 : wc.cell? ⟨w2.heap.size + 1, 10, none⟩ = some (.bool R.yes) := hs.cell (p := ⟨w2.heap.size + 1, 10, none⟩) trivial rr10
          clear hd hz hf hw
          simp only [Region.wanted, if_true, Oper.wp, execOp, resolve, List.map_toArray, List.map_cons, List.map_nil, Option.map_some, Option.map_none, e0]
          go_simp
          exact hK _ _ rfl (Same.refl _ _)
      · intro vs wR hvl hvp hsR
        rcases vs with _ | ⟨z0, _ | ⟨z1, _ | ⟨zz, zr⟩⟩⟩
        rotate_right 1
        · simp at hvl
        · simp at hvl
        · simp at hvl
        · obtain rfl : z0 = (partV (.slice Aq Q.cells.length cq) (.slice Bq Q.recs.length dq) (.slice Cq Q.done.length eq_) Q) := hvp 0 (by omega)
          obtain rfl : z1 = (repV (.slice Ap R.pairs.length cp) R) := hvp 1 (by omega)
          clear hvl hvp
          simp only [putAll, Act.put, List.setIfInBounds_toArray, List.set_cons_succ, List.set_cons_zero, List.take_succ_cons, List.take_zero, List.drop_succ_cons, List.drop_zero, List.eraseIdx_cons_succ, List.eraseIdx_cons_zero]
          have Ho9 := Lib.hid ((HoQ.out.keepAll hsR).lower (B' := w.heap.size) (by omega))
          have HSR := Lib.hid (HS.out.trans hsR)
          have HpR := Lib.hid ((HpR.out.keepAll hsR).lower (B' := w.heap.size) (by omega))
          have R2 := Lib.hid (R2.out.keep hsR trivial)
          have R3 := Lib.hid (R3.out.keep hsR trivial)
          have G1 := Lib.hid (G1.out.keep hsR trivial)
          have r2 := R2.out
          have r3 := R3.out
          have r4 := G1.out
          clear rr0 rr1 rr2 rr3 rr4 rr5 rr6 rr7 rr8 rr9 rr10 p0 p1 p2 p3 p4 p5 p6 p7 p8 q0 q1 q2 q3 q4 q5 q6 q7 q8
          have x0 := r2.cell 0
          have x1 := r2.cell 1
          have x2 := r2.cell 2
          have x3 := r2.cell 3
          have x4 := r2.cell 4
          have x5 := r2.cell 5
          have x6 := r2.cell 6
          have x7 := r2.cell 7
          have x8 := r2.cell 8
          simp only [zeroPart, List.getElem?_cons_zero, List.getElem?_cons_succ] at x0 x1 x2 x3 x4 x5 x6 x7 x8
          have y0 := r2.frozen 0
          have y1 := r2.frozen 1
          have y2 := r2.frozen 2
          have y3 := r2.frozen 3
          have y4 := r2.frozen 4
          have y5 := r2.frozen 5
          have y6 := r2.frozen 6
          have y7 := r2.frozen 7
          have y8 := r2.frozen 8
          have t0 := r3.cell 0
          have t1 := r3.cell 1
          have t2 := r3.cell 2
          have t3 := r3.cell 3
          have t4 := r3.cell 4
          have t5 := r3.cell 5
          have t6 := r3.cell 6
          have t7 := r3.cell 7
          have t8 := r3.cell 8
          have t9 := r3.cell 9
          have t10 := r3.cell 10
          simp only [repCs, ReplyM.zero, List.getElem?_cons_zero, List.getElem?_cons_succ] at t0 t1 t2 t3 t4 t5 t6 t7 t8 t9 t10
          have u0 := r3.frozen 0
          have u1 := r3.frozen 1
          have u2 := r3.frozen 2
          have u3 := r3.frozen 3
          have u4 := r3.frozen 4
          have u5 := r3.frozen 5
          have u6 := r3.frozen 6
          have u7 := r3.frozen 7
          have u8 := r3.frozen 8
          have u9 := r3.frozen 9
          have u10 := r3.frozen 10
          have rr0 := r4.cell 0
          have rr1 := r4.cell 1
          have rr2 := r4.cell 2
          have rr3 := r4.cell 3
          have rr4 := r4.cell 4
          have rr5 := r4.cell 5
          have rr6 := r4.cell 6
          have rr7 := r4.cell 7
          have rr8 := r4.cell 8
          have rr9 := r4.cell 9
          have rr10 := r4.cell 10
          simp only [repCs, List.getElem?_cons_zero, List.getElem?_cons_succ] at rr0 rr1 rr2 rr3 rr4 rr5 rr6 rr7 rr8 rr9 rr10
          have z2 := r2.lt
          have z3_ := r3.lt
          clear r2 r3 r4 hsR
          go_wp2
          have q2 := R2.out.sets (partCs (.slice Aq Q.cells.length cq) (.slice Bq Q.recs.length dq) (.slice Cq Q.done.length eq_) Q) 0
          have s2 := Same.sets (S := fun q => q ≠ w.heap.size + 1 + 1) (g := w.heap.size + 1 + 1) (fun h => h rfl) (partCs (.slice Aq Q.cells.length cq) (.slice Bq Q.recs.length dq) (.slice Cq Q.done.length eq_) Q) 0 (Same.refl _ wR)
          have s3 := Same.sets (S := fun q => q ≠ w.heap.size + 1 + 1 + 1) (g := w.heap.size + 1 + 1 + 1) (fun h => h rfl) (repCs (.slice Ap R.pairs.length cp) R) 0 (Same.refl _ (setsW wR (w.heap.size + 1 + 1) 0 (partCs (.slice Aq Q.cells.length cq) (.slice Bq Q.recs.length dq) (.slice Cq Q.done.length eq_) Q)))
          have q3 := (R3.out.keep s2 (by omega)).sets (repCs (.slice Ap R.pairs.length cp) R) 0
          rw [HF.out]
          exact bodyPost_ret (apply_results (show Row _ _ _ (partCs (.slice Aq Q.cells.length cq) (.slice Bq Q.recs.length dq) (.slice Cq Q.done.length eq_) Q) from q2.keep s3 (by omega)) (show Row _ _ _ (repCs (.slice Ap R.pairs.length cp) R) from q3) rfl rfl) rfl ⟨_, _, _, _, rfl, (Ho9.out.keepG R2.out s2).keepRep (R3.out.keep s2 (by omega)) s3, OwnR.keepG (OwnR.keepG HpR.out R2.out (by decide) s2) (R3.out.keep s2 (by omega)) (by decide) s3, Same.sets' (by omega) (repCs (.slice Ap R.pairs.length cp) R) 0 (Same.sets' (by omega) (partCs (.slice Aq Q.cells.length cq) (.slice Bq Q.recs.length dq) (.slice Cq Q.done.length eq_) Q) 0 HSR.out)⟩
      · intro vs wR hvl hvp hsR
        rcases vs with _ | ⟨z0, _ | ⟨zz, zr⟩⟩
        rotate_right 1
        · simp at hvl
        · simp at hvl
        · obtain rfl : z0 = (partV (.slice Aq Q.cells.length cq) (.slice Bq Q.recs.length dq) (.slice Cq Q.done.length eq_) Q) := hvp 0 (by omega)
          clear hvl hvp
          simp only [putAll, Act.put, List.setIfInBounds_toArray, List.set_cons_succ, List.set_cons_zero, List.take_succ_cons, List.take_zero, List.drop_succ_cons, List.drop_zero, List.eraseIdx_cons_succ, List.eraseIdx_cons_zero]
          have Ho9 := Lib.hid ((HoQ.out.keepAll hsR).lower (B' := w.heap.size) (by omega))
          have HSR := Lib.hid (HS.out.trans hsR)
          have HpR := Lib.hid ((HpR.out.keepAll hsR).lower (B' := w.heap.size) (by omega))
          have R2 := Lib.hid (R2.out.keep hsR trivial)
          have R3 := Lib.hid (R3.out.keep hsR trivial)
          have G1 := Lib.hid (G1.out.keep hsR trivial)
          have r2 := R2.out
          have r3 := R3.out
          have r4 := G1.out
          clear rr0 rr1 rr2 rr3 rr4 rr5 rr6 rr7 rr8 rr9 rr10 p0 p1 p2 p3 p4 p5 p6 p7 p8 q0 q1 q2 q3 q4 q5 q6 q7 q8
          have x0 := r2.cell 0
          have x1 := r2.cell 1
          have x2 := r2.cell 2
          have x3 := r2.cell 3
          have x4 := r2.cell 4
          have x5 := r2.cell 5
          have x6 := r2.cell 6
          have x7 := r2.cell 7
          have x8 := r2.cell 8
          simp only [zeroPart, List.getElem?_cons_zero, List.getElem?_cons_succ] at x0 x1 x2 x3 x4 x5 x6 x7 x8
          have y0 := r2.frozen 0
          have y1 := r2.frozen 1
          have y2 := r2.frozen 2
          have y3 := r2.frozen 3
          have y4 := r2.frozen 4
          have y5 := r2.frozen 5
          have y6 := r2.frozen 6
          have y7 := r2.frozen 7
          have y8 := r2.frozen 8
          have t0 := r3.cell 0
          have t1 := r3.cell 1
          have t2 := r3.cell 2
          have t3 := r3.cell 3
          have t4 := r3.cell 4
          have t5 := r3.cell 5
          have t6 := r3.cell 6
          have t7 := r3.cell 7
          have t8 := r3.cell 8
          have t9 := r3.cell 9
          have t10 := r3.cell 10
          simp only [repCs, ReplyM.zero, List.getElem?_cons_zero, List.getElem?_cons_succ] at t0 t1 t2 t3 t4 t5 t6 t7 t8 t9 t10
          have u0 := r3.frozen 0
          have u1 := r3.frozen 1
          have u2 := r3.frozen 2
          have u3 := r3.frozen 3
          have u4 := r3.frozen 4
          have u5 := r3.frozen 5
          have u6 := r3.frozen 6
          have u7 := r3.frozen 7
          have u8 := r3.frozen 8
          have u9 := r3.frozen 9
          have u10 := r3.frozen 10
          have rr0 := r4.cell 0
          have rr1 := r4.cell 1
          have rr2 := r4.cell 2
          have rr3 := r4.cell 3
          have rr4 := r4.cell 4
          have rr5 := r4.cell 5
          have rr6 := r4.cell 6
          have rr7 := r4.cell 7
          have rr8 := r4.cell 8
          have rr9 := r4.cell 9
          have rr10 := r4.cell 10
          simp only [repCs, List.getElem?_cons_zero, List.getElem?_cons_succ] at rr0 rr1 rr2 rr3 rr4 rr5 rr6 rr7 rr8 rr9 rr10
          have z2 := r2.lt
          have z3_ := r3.lt
          clear r2 r3 r4 hsR
          go_wp2
          have q2 := R2.out.sets (partCs (.slice Aq Q.cells.length cq) (.slice Bq Q.recs.length dq) (.slice Cq Q.done.length eq_) Q) 0
          have s2 := Same.sets (S := fun q => q ≠ w.heap.size + 1 + 1) (g := w.heap.size + 1 + 1) (fun h => h rfl) (partCs (.slice Aq Q.cells.length cq) (.slice Bq Q.recs.length dq) (.slice Cq Q.done.length eq_) Q) 0 (Same.refl _ wR)
          have s3 := Same.sets (S := fun q => q ≠ w.heap.size + 1 + 1 + 1) (g := w.heap.size + 1 + 1 + 1) (fun h => h rfl) (repCs (.slice Ap R.pairs.length cp) R) 0 (Same.refl _ (setsW wR (w.heap.size + 1 + 1) 0 (partCs (.slice Aq Q.cells.length cq) (.slice Bq Q.recs.length dq) (.slice Cq Q.done.length eq_) Q)))
          have q3 := (R3.out.keep s2 (by omega)).sets (repCs (.slice Ap R.pairs.length cp) R) 0
          rw [HF.out]
          exact bodyPost_ret (apply_results (show Row _ _ _ (partCs (.slice Aq Q.cells.length cq) (.slice Bq Q.recs.length dq) (.slice Cq Q.done.length eq_) Q) from q2.keep s3 (by omega)) (show Row _ _ _ (repCs (.slice Ap R.pairs.length cp) R) from q3) rfl rfl) rfl ⟨_, _, _, _, rfl, (Ho9.out.keepG R2.out s2).keepRep (R3.out.keep s2 (by omega)) s3, OwnR.keepG (OwnR.keepG HpR.out R2.out (by decide) s2) (R3.out.keep s2 (by omega)) (by decide) s3, Same.sets' (by omega) (repCs (.slice Ap R.pairs.length cp) R) 0 (Same.sets' (by omega) (partCs (.slice Aq Q.cells.length cq) (.slice Bq Q.recs.length dq) (.slice Cq Q.done.length eq_) Q) 0 HSR.out)⟩
    · have k9 : (R.err == 0) = false := by simp [hz]
      have HF := Lib.hid (show applyF p c = (p, R) by
        unfold applyF
        rw [HR.out]
        exact if_neg hz)
      clear hz
      go_wp2
      refine wp_region_tail_d (L := [.eq (partV (.slice A0 p.cells.length c0_) (.slice A1 p.recs.length c1_) (.slice A2 p.done.length c2_) p), .of ⟨fun v w => ∃ vc vr vd, v = partV vc vr vd p ∧ OwnPart w w5.heap.size vc vr vd p, fun _ _ _ ⟨vc, vr, vd, h1, h2⟩ k => ⟨vc, vr, vd, h1, h2.keepAll k⟩⟩, .eq (repV (.slice Ap R.pairs.length cp) R)]) 3 2 (by omega) (by kernel_rfl) (by kernel_rfl) rfl rfl rfl rfl rfl rfl ?_ ?_ ?_
      · refine ⟨?_, ?_, ?_, trivial⟩
        · intro ac wc hs hd hz hf hw K hK
          have e0 : ac.eval (.tmp 2) = (.pointer (some ⟨w.heap.size, 0, none⟩)) := hf 2 rfl
          have m0 : wc.cell? ⟨w.heap.size, 0, none⟩ = some (.int .i64 p.epoch) := hs.cell (p := ⟨w.heap.size, 0, none⟩) trivial p0
          have m1 : wc.cell? ⟨w.heap.size, 1, none⟩ = some (.int .i64 p.holder) := hs.cell (p := ⟨w.heap.size, 1, none⟩) trivial p1
          have m2 : wc.cell? ⟨w.heap.size, 2, none⟩ = some (.int .i64 p.floor.wall) := hs.cell (p := ⟨w.heap.size, 2, none⟩) trivial p2
          have m3 : wc.cell? ⟨w.heap.size, 3, none⟩ = some (.int .i64 p.floor.tie) := hs.cell (p := ⟨w.heap.size, 3, none⟩) trivial p3
          have m4 : wc.cell? ⟨w.heap.size, 4, none⟩ = some (.int .i64 p.closed) := hs.cell (p := ⟨w.heap.size, 4, none⟩) trivial p4
          have m5 : wc.cell? ⟨w.heap.size, 5, none⟩ = some (.int .i64 p.low) := hs.cell (p := ⟨w.heap.size, 5, none⟩) trivial p5
          have m6 : wc.cell? ⟨w.heap.size, 6, none⟩ = some (.slice A0 p.cells.length c0_) := hs.cell (p := ⟨w.heap.size, 6, none⟩) trivial p6
          have m7 : wc.cell? ⟨w.heap.size, 7, none⟩ = some (.slice A1 p.recs.length c1_) := hs.cell (p := ⟨w.heap.size, 7, none⟩) trivial p7
          have m8 : wc.cell? ⟨w.heap.size, 8, none⟩ = some (.slice A2 p.done.length c2_) := hs.cell (p := ⟨w.heap.size, 8, none⟩) trivial p8
          clear hd hz hf hw
          simp only [Region.wanted, if_true, Oper.wp, execOp, resolve, List.map_toArray, List.map_cons, List.map_nil, Option.map_some, Option.map_none, e0]
          go_simp
          exact hK _ _ rfl (Same.refl _ _)
        · intro ac wc hs hd hz hf hw K hK
          have e0 : ac.eval (.tmp 34) = (partV (.slice A0 p.cells.length c0_) (.slice A1 p.recs.length c1_) (.slice A2 p.done.length c2_) p) := hw 0 rfl
          clear hd hz hf hw
          simp only [Region.wanted, if_true, Oper.wp, execOp, resolve, List.map_toArray, List.map_cons, List.map_nil, Option.map_some, Option.map_none, e0]
          go_simp
          refine (twin_any _ _ _ p S wc (Hv.out.keepAll (HS.out.trans hs)) Hn.out).mono ?_
          rintro e wd ⟨vc9, vr9, vd9, rfl, ho9, hs9⟩
          exact hK _ _ ⟨vc9, vr9, vd9, rfl, ho9.lower hs.size⟩ hs9
        · intro ac wc hs hd hz hf hw K hK
          have e0 : ac.eval (.tmp 7) = (.pointer (some ⟨w2.heap.size + 1, 0, none⟩)) := hf 7 rfl
          have m0 : wc.cell? ⟨w2.heap.size + 1, 0, none⟩ = some (.int .i64 R.err) := hs.cell (p := ⟨w2.heap.size + 1, 0, none⟩) trivial rr0
          have m1 : wc.cell? ⟨w2.heap.size + 1, 1, none⟩ = some (.slice Ap R.pairs.length cp) := hs.cell (p := ⟨w2.heap.size + 1, 1, none⟩) trivial rr1
          have m2 : wc.cell? ⟨w2.heap.size + 1, 2, none⟩ = some (.int .i64 R.by_.node) := hs.cell (p := ⟨w2.heap.size + 1, 2, none⟩) trivial rr2
          have m3 : wc.cell? ⟨w2.heap.size + 1, 3, none⟩ = some (.int .i64 R.by_.life) := hs.cell (p := ⟨w2.heap.size + 1, 3, none⟩) trivial rr3
          have m4 : wc.cell? ⟨w2.heap.size + 1, 4, none⟩ = some (.int .i64 R.by_.seq) := hs.cell (p := ⟨w2.heap.size + 1, 4, none⟩) trivial rr4
          have m5 : wc.cell? ⟨w2.heap.size + 1, 5, none⟩ = some (.int .i64 R.by_.attempt) := hs.cell (p := ⟨w2.heap.size + 1, 5, none⟩) trivial rr5
          have m6 : wc.cell? ⟨w2.heap.size + 1, 6, none⟩ = some (.int .i64 R.home) := hs.cell (p := ⟨w2.heap.size + 1, 6, none⟩) trivial rr6
          have m7 : wc.cell? ⟨w2.heap.size + 1, 7, none⟩ = some (.int .i64 R.at_.wall) := hs.cell (p := ⟨w2.heap.size + 1, 7, none⟩) trivial rr7
          have m8 : wc.cell? ⟨w2.heap.size + 1, 8, none⟩ = some (.int .i64 R.at_.tie) := hs.cell (p := ⟨w2.heap.size + 1, 8, none⟩) trivial rr8
          have m9 : wc.cell? ⟨w2.heap.size + 1, 9, none⟩ = some (.int .i64 R.wall) := hs.cell (p := ⟨w2.heap.size + 1, 9, none⟩) trivial rr9
          have m10 : wc.cell? ⟨w2.heap.size + 1, 10, none⟩ = some (.bool R.yes) := hs.cell (p := ⟨w2.heap.size + 1, 10, none⟩) trivial rr10
          clear hd hz hf hw
          simp only [Region.wanted, if_true, Oper.wp, execOp, resolve, List.map_toArray, List.map_cons, List.map_nil, Option.map_some, Option.map_none, e0]
          go_simp
          exact hK _ _ rfl (Same.refl _ _)
      · intro vs wR hvl hvp hsR
        rcases vs with _ | ⟨z0, _ | ⟨z1, _ | ⟨z2, _ | ⟨zz, zr⟩⟩⟩⟩
        rotate_right 1
        · simp at hvl
        · simp at hvl
        · simp at hvl
        · simp at hvl
        · obtain rfl : z0 = (partV (.slice A0 p.cells.length c0_) (.slice A1 p.recs.length c1_) (.slice A2 p.done.length c2_) p) := hvp 0 (by omega)
          have hx35 : (⟨fun v w => ∃ vc vr vd, v = partV vc vr vd p ∧ OwnPart w w5.heap.size vc vr vd p, fun _ _ _ ⟨vc, vr, vd, h1, h2⟩ k => ⟨vc, vr, vd, h1, h2.keepAll k⟩⟩ : SP).p z1 wR := hvp 1 (by omega)
          obtain rfl : z2 = (repV (.slice Ap R.pairs.length cp) R) := hvp 2 (by omega)
          clear hvl hvp
          simp only [putAll, Act.put, List.setIfInBounds_toArray, List.set_cons_succ, List.set_cons_zero, List.take_succ_cons, List.take_zero, List.drop_succ_cons, List.drop_zero, List.eraseIdx_cons_succ, List.eraseIdx_cons_zero]
          obtain ⟨vc9, vr9, vd9, rfl, ho9⟩ := hx35
          obtain ⟨A9, c9, rfl, -, -⟩ := ho9.cells.form
          obtain ⟨B9, d9, rfl, -, -⟩ := OwnR.form ho9.recs
          obtain ⟨C9, e9, rfl, -, -⟩ := OwnR.form ho9.done
          have Ho9 := Lib.hid (ho9.lower (B' := w.heap.size) (by have := HS.out.size; omega))
          clear ho9
          have HSR := Lib.hid (HS.out.trans hsR)
          have HpR := Lib.hid ((HpR.out.keepAll hsR).lower (B' := w.heap.size) (by omega))
          have R2 := Lib.hid (R2.out.keep hsR trivial)
          have R3 := Lib.hid (R3.out.keep hsR trivial)
          have G1 := Lib.hid (G1.out.keep hsR trivial)
          have r2 := R2.out
          have r3 := R3.out
          have r4 := G1.out
          clear rr0 rr1 rr2 rr3 rr4 rr5 rr6 rr7 rr8 rr9 rr10 p0 p1 p2 p3 p4 p5 p6 p7 p8
          have x0 := r2.cell 0
          have x1 := r2.cell 1
          have x2 := r2.cell 2
          have x3 := r2.cell 3
          have x4 := r2.cell 4
          have x5 := r2.cell 5
          have x6 := r2.cell 6
          have x7 := r2.cell 7
          have x8 := r2.cell 8
          simp only [zeroPart, List.getElem?_cons_zero, List.getElem?_cons_succ] at x0 x1 x2 x3 x4 x5 x6 x7 x8
          have y0 := r2.frozen 0
          have y1 := r2.frozen 1
          have y2 := r2.frozen 2
          have y3 := r2.frozen 3
          have y4 := r2.frozen 4
          have y5 := r2.frozen 5
          have y6 := r2.frozen 6
          have y7 := r2.frozen 7
          have y8 := r2.frozen 8
          have t0 := r3.cell 0
          have t1 := r3.cell 1
          have t2 := r3.cell 2
          have t3 := r3.cell 3
          have t4 := r3.cell 4
          have t5 := r3.cell 5
          have t6 := r3.cell 6
          have t7 := r3.cell 7
          have t8 := r3.cell 8
          have t9 := r3.cell 9
          have t10 := r3.cell 10
          simp only [repCs, ReplyM.zero, List.getElem?_cons_zero, List.getElem?_cons_succ] at t0 t1 t2 t3 t4 t5 t6 t7 t8 t9 t10
          have u0 := r3.frozen 0
          have u1 := r3.frozen 1
          have u2 := r3.frozen 2
          have u3 := r3.frozen 3
          have u4 := r3.frozen 4
          have u5 := r3.frozen 5
          have u6 := r3.frozen 6
          have u7 := r3.frozen 7
          have u8 := r3.frozen 8
          have u9 := r3.frozen 9
          have u10 := r3.frozen 10
          have rr0 := r4.cell 0
          have rr1 := r4.cell 1
          have rr2 := r4.cell 2
          have rr3 := r4.cell 3
          have rr4 := r4.cell 4
          have rr5 := r4.cell 5
          have rr6 := r4.cell 6
          have rr7 := r4.cell 7
          have rr8 := r4.cell 8
          have rr9 := r4.cell 9
          have rr10 := r4.cell 10
          simp only [repCs, List.getElem?_cons_zero, List.getElem?_cons_succ] at rr0 rr1 rr2 rr3 rr4 rr5 rr6 rr7 rr8 rr9 rr10
          have z2 := r2.lt
          have z3_ := r3.lt
          clear r2 r3 r4 hsR
          go_wp2
          have q2 := R2.out.sets (partCs (.slice A9 p.cells.length c9) (.slice B9 p.recs.length d9) (.slice C9 p.done.length e9) p) 0
          have s2 := Same.sets (S := fun q => q ≠ w.heap.size + 1 + 1) (g := w.heap.size + 1 + 1) (fun h => h rfl) (partCs (.slice A9 p.cells.length c9) (.slice B9 p.recs.length d9) (.slice C9 p.done.length e9) p) 0 (Same.refl _ wR)
          have s3 := Same.sets (S := fun q => q ≠ w.heap.size + 1 + 1 + 1) (g := w.heap.size + 1 + 1 + 1) (fun h => h rfl) (repCs (.slice Ap R.pairs.length cp) R) 0 (Same.refl _ (setsW wR (w.heap.size + 1 + 1) 0 (partCs (.slice A9 p.cells.length c9) (.slice B9 p.recs.length d9) (.slice C9 p.done.length e9) p)))
          have q3 := (R3.out.keep s2 (by omega)).sets (repCs (.slice Ap R.pairs.length cp) R) 0
          rw [HF.out]
          exact bodyPost_ret (apply_results (show Row _ _ _ (partCs (.slice A9 p.cells.length c9) (.slice B9 p.recs.length d9) (.slice C9 p.done.length e9) p) from q2.keep s3 (by omega)) (show Row _ _ _ (repCs (.slice Ap R.pairs.length cp) R) from q3) rfl rfl) rfl ⟨_, _, _, _, rfl, (Ho9.out.keepG R2.out s2).keepRep (R3.out.keep s2 (by omega)) s3, OwnR.keepG (OwnR.keepG HpR.out R2.out (by decide) s2) (R3.out.keep s2 (by omega)) (by decide) s3, Same.sets' (by omega) (repCs (.slice Ap R.pairs.length cp) R) 0 (Same.sets' (by omega) (partCs (.slice A9 p.cells.length c9) (.slice B9 p.recs.length d9) (.slice C9 p.done.length e9) p) 0 HSR.out)⟩
      · intro vs wR hvl hvp hsR
        rcases vs with _ | ⟨z0, _ | ⟨z1, _ | ⟨zz, zr⟩⟩⟩
        rotate_right 1
        · simp at hvl
        · simp at hvl
        · simp at hvl
        · obtain rfl : z0 = (partV (.slice A0 p.cells.length c0_) (.slice A1 p.recs.length c1_) (.slice A2 p.done.length c2_) p) := hvp 0 (by omega)
          have hx35 : (⟨fun v w => ∃ vc vr vd, v = partV vc vr vd p ∧ OwnPart w w5.heap.size vc vr vd p, fun _ _ _ ⟨vc, vr, vd, h1, h2⟩ k => ⟨vc, vr, vd, h1, h2.keepAll k⟩⟩ : SP).p z1 wR := hvp 1 (by omega)
          clear hvl hvp
          simp only [putAll, Act.put, List.setIfInBounds_toArray, List.set_cons_succ, List.set_cons_zero, List.take_succ_cons, List.take_zero, List.drop_succ_cons, List.drop_zero, List.eraseIdx_cons_succ, List.eraseIdx_cons_zero]
          obtain ⟨vc9, vr9, vd9, rfl, ho9⟩ := hx35
          obtain ⟨A9, c9, rfl, -, -⟩ := ho9.cells.form
          obtain ⟨B9, d9, rfl, -, -⟩ := OwnR.form ho9.recs
          obtain ⟨C9, e9, rfl, -, -⟩ := OwnR.form ho9.done
          have Ho9 := Lib.hid (ho9.lower (B' := w.heap.size) (by have := HS.out.size; omega))
          clear ho9
          have HSR := Lib.hid (HS.out.trans hsR)
          have HpR := Lib.hid ((HpR.out.keepAll hsR).lower (B' := w.heap.size) (by omega))
          have R2 := Lib.hid (R2.out.keep hsR trivial)
          have R3 := Lib.hid (R3.out.keep hsR trivial)
          have G1 := Lib.hid (G1.out.keep hsR trivial)
          have r2 := R2.out
          have r3 := R3.out
          have r4 := G1.out
          clear rr0 rr1 rr2 rr3 rr4 rr5 rr6 rr7 rr8 rr9 rr10 p0 p1 p2 p3 p4 p5 p6 p7 p8
          have x0 := r2.cell 0
          have x1 := r2.cell 1
          have x2 := r2.cell 2
          have x3 := r2.cell 3
          have x4 := r2.cell 4
          have x5 := r2.cell 5
          have x6 := r2.cell 6
          have x7 := r2.cell 7
          have x8 := r2.cell 8
          simp only [zeroPart, List.getElem?_cons_zero, List.getElem?_cons_succ] at x0 x1 x2 x3 x4 x5 x6 x7 x8
          have y0 := r2.frozen 0
          have y1 := r2.frozen 1
          have y2 := r2.frozen 2
          have y3 := r2.frozen 3
          have y4 := r2.frozen 4
          have y5 := r2.frozen 5
          have y6 := r2.frozen 6
          have y7 := r2.frozen 7
          have y8 := r2.frozen 8
          have t0 := r3.cell 0
          have t1 := r3.cell 1
          have t2 := r3.cell 2
          have t3 := r3.cell 3
          have t4 := r3.cell 4
          have t5 := r3.cell 5
          have t6 := r3.cell 6
          have t7 := r3.cell 7
          have t8 := r3.cell 8
          have t9 := r3.cell 9
          have t10 := r3.cell 10
          simp only [repCs, ReplyM.zero, List.getElem?_cons_zero, List.getElem?_cons_succ] at t0 t1 t2 t3 t4 t5 t6 t7 t8 t9 t10
          have u0 := r3.frozen 0
          have u1 := r3.frozen 1
          have u2 := r3.frozen 2
          have u3 := r3.frozen 3
          have u4 := r3.frozen 4
          have u5 := r3.frozen 5
          have u6 := r3.frozen 6
          have u7 := r3.frozen 7
          have u8 := r3.frozen 8
          have u9 := r3.frozen 9
          have u10 := r3.frozen 10
          have rr0 := r4.cell 0
          have rr1 := r4.cell 1
          have rr2 := r4.cell 2
          have rr3 := r4.cell 3
          have rr4 := r4.cell 4
          have rr5 := r4.cell 5
          have rr6 := r4.cell 6
          have rr7 := r4.cell 7
          have rr8 := r4.cell 8
          have rr9 := r4.cell 9
          have rr10 := r4.cell 10
          simp only [repCs, List.getElem?_cons_zero, List.getElem?_cons_succ] at rr0 rr1 rr2 rr3 rr4 rr5 rr6 rr7 rr8 rr9 rr10
          have z2 := r2.lt
          have z3_ := r3.lt
          clear r2 r3 r4 hsR
          go_wp2
          have q2 := R2.out.sets (partCs (.slice A9 p.cells.length c9) (.slice B9 p.recs.length d9) (.slice C9 p.done.length e9) p) 0
          have s2 := Same.sets (S := fun q => q ≠ w.heap.size + 1 + 1) (g := w.heap.size + 1 + 1) (fun h => h rfl) (partCs (.slice A9 p.cells.length c9) (.slice B9 p.recs.length d9) (.slice C9 p.done.length e9) p) 0 (Same.refl _ wR)
          have s3 := Same.sets (S := fun q => q ≠ w.heap.size + 1 + 1 + 1) (g := w.heap.size + 1 + 1 + 1) (fun h => h rfl) (repCs (.slice Ap R.pairs.length cp) R) 0 (Same.refl _ (setsW wR (w.heap.size + 1 + 1) 0 (partCs (.slice A9 p.cells.length c9) (.slice B9 p.recs.length d9) (.slice C9 p.done.length e9) p)))
          have q3 := (R3.out.keep s2 (by omega)).sets (repCs (.slice Ap R.pairs.length cp) R) 0
          rw [HF.out]
          exact bodyPost_ret (apply_results (show Row _ _ _ (partCs (.slice A9 p.cells.length c9) (.slice B9 p.recs.length d9) (.slice C9 p.done.length e9) p) from q2.keep s3 (by omega)) (show Row _ _ _ (repCs (.slice Ap R.pairs.length cp) R) from q3) rfl rfl) rfl ⟨_, _, _, _, rfl, (Ho9.out.keepG R2.out s2).keepRep (R3.out.keep s2 (by omega)) s3, OwnR.keepG (OwnR.keepG HpR.out R2.out (by decide) s2) (R3.out.keep s2 (by omega)) (by decide) s3, Same.sets' (by omega) (repCs (.slice Ap R.pairs.length cp) R) 0 (Same.sets' (by omega) (partCs (.slice A9 p.cells.length c9) (.slice B9 p.recs.length d9) (.slice C9 p.done.length e9) p) 0 HSR.out)⟩
  · rename (c.kind == 1) = false => hk0
    rename p.epoch = 0 => he0
    unfold Hid
    obtain ⟨R, hRe⟩ : ∃ R, R = repErr 25 := ⟨_, rfl⟩
    have HR := Lib.hid (show applyR p c = (p, R) by
      unfold applyR
      rw [if_neg (by simpa using hk0), if_pos (.inl he0), hRe])
    clear hk0 he0
    have q5 := G1.out.set_ 0 (.int .i64 25)
    have s5 : Same (fun q => q ≠ w2.heap.size + 1) w3 (w3.setCell ⟨w2.heap.size + 1, 0, none⟩ (.int .i64 25)) := (Same.refl _ _).setCell (fun _ h => h rfl) _
    clear p0 p1 p2 p3 p4 p5 p6 p7 p8 c0 c1 c2 c3 c4 c5 c6 c7 c8 c9 c10 c11 c12 c13 rr0 f0 rr1 f1 rr2 f2 rr3 f3 rr4 f4 rr5 f5 rr6 f6 rr7 f7 rr8 f8 rr9 f9 rr10 f10 z4
    revert q5 s5
    generalize w3.setCell _ _ = w5
    intro q5 s5
    have HS := Lib.hid (HS.out.trans' s5 fun k hk _ => by omega)
    have HpR := Lib.hid (show OwnP w5 B (.slice none R.pairs.length 0) R.pairs by subst hRe; exact OwnR.nil _ _)
    have R0 := Lib.hid (R0.out.keep s5 (by omega))
    have R2 := Lib.hid (R2.out.keep s5 (by omega))
    have R3 := Lib.hid (R3.out.keep s5 (by omega))
    have G1 := Lib.hid (show Row w5 (w2.heap.size + 1) 85 (repCs (.slice none R.pairs.length 0) R) by subst hRe; exact q5)
    have hz : R.err ≠ 0 := by subst hRe; simp [repErr]
    clear s5 q5 hRe
    have r1 := G1.out
    have r0 := R0.out
    have rr0 := r1.cell 0
    have rr1 := r1.cell 1
    have rr2 := r1.cell 2
    have rr3 := r1.cell 3
    have rr4 := r1.cell 4
    have rr5 := r1.cell 5
    have rr6 := r1.cell 6
    have rr7 := r1.cell 7
    have rr8 := r1.cell 8
    have rr9 := r1.cell 9
    have rr10 := r1.cell 10
    simp only [repCs, List.getElem?_cons_zero, List.getElem?_cons_succ] at rr0 rr1 rr2 rr3 rr4 rr5 rr6 rr7 rr8 rr9 rr10
    have p0 := r0.cell 0
    have p1 := r0.cell 1
    have p2 := r0.cell 2
    have p3 := r0.cell 3
    have p4 := r0.cell 4
    have p5 := r0.cell 5
    have p6 := r0.cell 6
    have p7 := r0.cell 7
    have p8 := r0.cell 8
    simp only [List.getElem?_cons_zero, List.getElem?_cons_succ] at p0 p1 p2 p3 p4 p5 p6 p7 p8
    have z4 := r1.lt
    clear r1 r0
    have k9 : (R.err == 0) = false := by simp [hz]
    have HF := Lib.hid (show applyF p c = (p, R) by
      unfold applyF
      rw [HR.out]
      exact if_neg hz)
    clear hz
    go_wp2
    refine wp_region_tail_d (L := [.eq (partV (.slice A0 p.cells.length c0_) (.slice A1 p.recs.length c1_) (.slice A2 p.done.length c2_) p), .of ⟨fun v w => ∃ vc vr vd, v = partV vc vr vd p ∧ OwnPart w w5.heap.size vc vr vd p, fun _ _ _ ⟨vc, vr, vd, h1, h2⟩ k => ⟨vc, vr, vd, h1, h2.keepAll k⟩⟩, .eq (repV (.slice none R.pairs.length 0) R)]) 3 2 (by omega) (by kernel_rfl) (by kernel_rfl) rfl rfl rfl rfl rfl rfl ?_ ?_ ?_
    · refine ⟨?_, ?_, ?_, trivial⟩
      · intro ac wc hs hd hz hf hw K hK
        have e0 : ac.eval (.tmp 2) = (.pointer (some ⟨w.heap.size, 0, none⟩)) := hf 2 rfl
        have m0 : wc.cell? ⟨w.heap.size, 0, none⟩ = some (.int .i64 p.epoch) := hs.cell (p := ⟨w.heap.size, 0, none⟩) trivial p0
        have m1 : wc.cell? ⟨w.heap.size, 1, none⟩ = some (.int .i64 p.holder) := hs.cell (p := ⟨w.heap.size, 1, none⟩) trivial p1
        have m2 : wc.cell? ⟨w.heap.size, 2, none⟩ = some (.int .i64 p.floor.wall) := hs.cell (p := ⟨w.heap.size, 2, none⟩) trivial p2
        have m3 : wc.cell? ⟨w.heap.size, 3, none⟩ = some (.int .i64 p.floor.tie) := hs.cell (p := ⟨w.heap.size, 3, none⟩) trivial p3
        have m4 : wc.cell? ⟨w.heap.size, 4, none⟩ = some (.int .i64 p.closed) := hs.cell (p := ⟨w.heap.size, 4, none⟩) trivial p4
        have m5 : wc.cell? ⟨w.heap.size, 5, none⟩ = some (.int .i64 p.low) := hs.cell (p := ⟨w.heap.size, 5, none⟩) trivial p5
        have m6 : wc.cell? ⟨w.heap.size, 6, none⟩ = some (.slice A0 p.cells.length c0_) := hs.cell (p := ⟨w.heap.size, 6, none⟩) trivial p6
        have m7 : wc.cell? ⟨w.heap.size, 7, none⟩ = some (.slice A1 p.recs.length c1_) := hs.cell (p := ⟨w.heap.size, 7, none⟩) trivial p7
        have m8 : wc.cell? ⟨w.heap.size, 8, none⟩ = some (.slice A2 p.done.length c2_) := hs.cell (p := ⟨w.heap.size, 8, none⟩) trivial p8
        clear hd hz hf hw
        simp only [Region.wanted, if_true, Oper.wp, execOp, resolve, List.map_toArray, List.map_cons, List.map_nil, Option.map_some, Option.map_none, e0]
        go_simp
        exact hK _ _ rfl (Same.refl _ _)
      · intro ac wc hs hd hz hf hw K hK
        have e0 : ac.eval (.tmp 34) = (partV (.slice A0 p.cells.length c0_) (.slice A1 p.recs.length c1_) (.slice A2 p.done.length c2_) p) := hw 0 rfl
        clear hd hz hf hw
        simp only [Region.wanted, if_true, Oper.wp, execOp, resolve, List.map_toArray, List.map_cons, List.map_nil, Option.map_some, Option.map_none, e0]
        go_simp
        refine (twin_any _ _ _ p S wc (Hv.out.keepAll (HS.out.trans hs)) Hn.out).mono ?_
        rintro e wd ⟨vc9, vr9, vd9, rfl, ho9, hs9⟩
        exact hK _ _ ⟨vc9, vr9, vd9, rfl, ho9.lower hs.size⟩ hs9
      · intro ac wc hs hd hz hf hw K hK
        have e0 : ac.eval (.tmp 7) = (.pointer (some ⟨w2.heap.size + 1, 0, none⟩)) := hf 7 rfl
        have m0 : wc.cell? ⟨w2.heap.size + 1, 0, none⟩ = some (.int .i64 R.err) := hs.cell (p := ⟨w2.heap.size + 1, 0, none⟩) trivial rr0
        have m1 : wc.cell? ⟨w2.heap.size + 1, 1, none⟩ = some (.slice none R.pairs.length 0) := hs.cell (p := ⟨w2.heap.size + 1, 1, none⟩) trivial rr1
        have m2 : wc.cell? ⟨w2.heap.size + 1, 2, none⟩ = some (.int .i64 R.by_.node) := hs.cell (p := ⟨w2.heap.size + 1, 2, none⟩) trivial rr2
        have m3 : wc.cell? ⟨w2.heap.size + 1, 3, none⟩ = some (.int .i64 R.by_.life) := hs.cell (p := ⟨w2.heap.size + 1, 3, none⟩) trivial rr3
        have m4 : wc.cell? ⟨w2.heap.size + 1, 4, none⟩ = some (.int .i64 R.by_.seq) := hs.cell (p := ⟨w2.heap.size + 1, 4, none⟩) trivial rr4
        have m5 : wc.cell? ⟨w2.heap.size + 1, 5, none⟩ = some (.int .i64 R.by_.attempt) := hs.cell (p := ⟨w2.heap.size + 1, 5, none⟩) trivial rr5
        have m6 : wc.cell? ⟨w2.heap.size + 1, 6, none⟩ = some (.int .i64 R.home) := hs.cell (p := ⟨w2.heap.size + 1, 6, none⟩) trivial rr6
        have m7 : wc.cell? ⟨w2.heap.size + 1, 7, none⟩ = some (.int .i64 R.at_.wall) := hs.cell (p := ⟨w2.heap.size + 1, 7, none⟩) trivial rr7
        have m8 : wc.cell? ⟨w2.heap.size + 1, 8, none⟩ = some (.int .i64 R.at_.tie) := hs.cell (p := ⟨w2.heap.size + 1, 8, none⟩) trivial rr8
        have m9 : wc.cell? ⟨w2.heap.size + 1, 9, none⟩ = some (.int .i64 R.wall) := hs.cell (p := ⟨w2.heap.size + 1, 9, none⟩) trivial rr9
        have m10 : wc.cell? ⟨w2.heap.size + 1, 10, none⟩ = some (.bool R.yes) := hs.cell (p := ⟨w2.heap.size + 1, 10, none⟩) trivial rr10
        clear hd hz hf hw
        simp only [Region.wanted, if_true, Oper.wp, execOp, resolve, List.map_toArray, List.map_cons, List.map_nil, Option.map_some, Option.map_none, e0]
        go_simp
        exact hK _ _ rfl (Same.refl _ _)
    · intro vs wR hvl hvp hsR
      rcases vs with _ | ⟨z0, _ | ⟨z1, _ | ⟨z2, _ | ⟨zz, zr⟩⟩⟩⟩
      rotate_right 1
      · simp at hvl
      · simp at hvl
      · simp at hvl
      · simp at hvl
      · obtain rfl : z0 = (partV (.slice A0 p.cells.length c0_) (.slice A1 p.recs.length c1_) (.slice A2 p.done.length c2_) p) := hvp 0 (by omega)
        have hx35 : (⟨fun v w => ∃ vc vr vd, v = partV vc vr vd p ∧ OwnPart w w5.heap.size vc vr vd p, fun _ _ _ ⟨vc, vr, vd, h1, h2⟩ k => ⟨vc, vr, vd, h1, h2.keepAll k⟩⟩ : SP).p z1 wR := hvp 1 (by omega)
        obtain rfl : z2 = (repV (.slice none R.pairs.length 0) R) := hvp 2 (by omega)
        clear hvl hvp
        simp only [putAll, Act.put, List.setIfInBounds_toArray, List.set_cons_succ, List.set_cons_zero, List.take_succ_cons, List.take_zero, List.drop_succ_cons, List.drop_zero, List.eraseIdx_cons_succ, List.eraseIdx_cons_zero]
        obtain ⟨vc9, vr9, vd9, rfl, ho9⟩ := hx35
        obtain ⟨A9, c9, rfl, -, -⟩ := ho9.cells.form
        obtain ⟨B9, d9, rfl, -, -⟩ := OwnR.form ho9.recs
        obtain ⟨C9, e9, rfl, -, -⟩ := OwnR.form ho9.done
        have Ho9 := Lib.hid (ho9.lower (B' := w.heap.size) (by have := HS.out.size; omega))
        clear ho9
        have HSR := Lib.hid (HS.out.trans hsR)
        have HpR := Lib.hid ((HpR.out.keepAll hsR).lower (B' := w.heap.size) (by omega))
        have R2 := Lib.hid (R2.out.keep hsR trivial)
        have R3 := Lib.hid (R3.out.keep hsR trivial)
        have G1 := Lib.hid (G1.out.keep hsR trivial)
        have r2 := R2.out
        have r3 := R3.out
        have r4 := G1.out
        clear rr0 rr1 rr2 rr3 rr4 rr5 rr6 rr7 rr8 rr9 rr10 p0 p1 p2 p3 p4 p5 p6 p7 p8
        have x0 := r2.cell 0
        have x1 := r2.cell 1
        have x2 := r2.cell 2
        have x3 := r2.cell 3
        have x4 := r2.cell 4
        have x5 := r2.cell 5
        have x6 := r2.cell 6
        have x7 := r2.cell 7
        have x8 := r2.cell 8
        simp only [zeroPart, List.getElem?_cons_zero, List.getElem?_cons_succ] at x0 x1 x2 x3 x4 x5 x6 x7 x8
        have y0 := r2.frozen 0
        have y1 := r2.frozen 1
        have y2 := r2.frozen 2
        have y3 := r2.frozen 3
        have y4 := r2.frozen 4
        have y5 := r2.frozen 5
        have y6 := r2.frozen 6
        have y7 := r2.frozen 7
        have y8 := r2.frozen 8
        have t0 := r3.cell 0
        have t1 := r3.cell 1
        have t2 := r3.cell 2
        have t3 := r3.cell 3
        have t4 := r3.cell 4
        have t5 := r3.cell 5
        have t6 := r3.cell 6
        have t7 := r3.cell 7
        have t8 := r3.cell 8
        have t9 := r3.cell 9
        have t10 := r3.cell 10
        simp only [repCs, ReplyM.zero, List.getElem?_cons_zero, List.getElem?_cons_succ] at t0 t1 t2 t3 t4 t5 t6 t7 t8 t9 t10
        have u0 := r3.frozen 0
        have u1 := r3.frozen 1
        have u2 := r3.frozen 2
        have u3 := r3.frozen 3
        have u4 := r3.frozen 4
        have u5 := r3.frozen 5
        have u6 := r3.frozen 6
        have u7 := r3.frozen 7
        have u8 := r3.frozen 8
        have u9 := r3.frozen 9
        have u10 := r3.frozen 10
        have rr0 := r4.cell 0
        have rr1 := r4.cell 1
        have rr2 := r4.cell 2
        have rr3 := r4.cell 3
        have rr4 := r4.cell 4
        have rr5 := r4.cell 5
        have rr6 := r4.cell 6
        have rr7 := r4.cell 7
        have rr8 := r4.cell 8
        have rr9 := r4.cell 9
        have rr10 := r4.cell 10
        simp only [repCs, List.getElem?_cons_zero, List.getElem?_cons_succ] at rr0 rr1 rr2 rr3 rr4 rr5 rr6 rr7 rr8 rr9 rr10
        have z2 := r2.lt
        have z3_ := r3.lt
        clear r2 r3 r4 hsR
        go_wp2
        have q2 := R2.out.sets (partCs (.slice A9 p.cells.length c9) (.slice B9 p.recs.length d9) (.slice C9 p.done.length e9) p) 0
        have s2 := Same.sets (S := fun q => q ≠ w.heap.size + 1 + 1) (g := w.heap.size + 1 + 1) (fun h => h rfl) (partCs (.slice A9 p.cells.length c9) (.slice B9 p.recs.length d9) (.slice C9 p.done.length e9) p) 0 (Same.refl _ wR)
        have s3 := Same.sets (S := fun q => q ≠ w.heap.size + 1 + 1 + 1) (g := w.heap.size + 1 + 1 + 1) (fun h => h rfl) (repCs (.slice none R.pairs.length 0) R) 0 (Same.refl _ (setsW wR (w.heap.size + 1 + 1) 0 (partCs (.slice A9 p.cells.length c9) (.slice B9 p.recs.length d9) (.slice C9 p.done.length e9) p)))
        have q3 := (R3.out.keep s2 (by omega)).sets (repCs (.slice none R.pairs.length 0) R) 0
        rw [HF.out]
        exact bodyPost_ret (apply_results (show Row _ _ _ (partCs (.slice A9 p.cells.length c9) (.slice B9 p.recs.length d9) (.slice C9 p.done.length e9) p) from q2.keep s3 (by omega)) (show Row _ _ _ (repCs (.slice none R.pairs.length 0) R) from q3) rfl rfl) rfl ⟨_, _, _, _, rfl, (Ho9.out.keepG R2.out s2).keepRep (R3.out.keep s2 (by omega)) s3, OwnR.keepG (OwnR.keepG HpR.out R2.out (by decide) s2) (R3.out.keep s2 (by omega)) (by decide) s3, Same.sets' (by omega) (repCs (.slice none R.pairs.length 0) R) 0 (Same.sets' (by omega) (partCs (.slice A9 p.cells.length c9) (.slice B9 p.recs.length d9) (.slice C9 p.done.length e9) p) 0 HSR.out)⟩
    · intro vs wR hvl hvp hsR
      rcases vs with _ | ⟨z0, _ | ⟨z1, _ | ⟨zz, zr⟩⟩⟩
      rotate_right 1
      · simp at hvl
      · simp at hvl
      · simp at hvl
      · obtain rfl : z0 = (partV (.slice A0 p.cells.length c0_) (.slice A1 p.recs.length c1_) (.slice A2 p.done.length c2_) p) := hvp 0 (by omega)
        have hx35 : (⟨fun v w => ∃ vc vr vd, v = partV vc vr vd p ∧ OwnPart w w5.heap.size vc vr vd p, fun _ _ _ ⟨vc, vr, vd, h1, h2⟩ k => ⟨vc, vr, vd, h1, h2.keepAll k⟩⟩ : SP).p z1 wR := hvp 1 (by omega)
        clear hvl hvp
        simp only [putAll, Act.put, List.setIfInBounds_toArray, List.set_cons_succ, List.set_cons_zero, List.take_succ_cons, List.take_zero, List.drop_succ_cons, List.drop_zero, List.eraseIdx_cons_succ, List.eraseIdx_cons_zero]
        obtain ⟨vc9, vr9, vd9, rfl, ho9⟩ := hx35
        obtain ⟨A9, c9, rfl, -, -⟩ := ho9.cells.form
        obtain ⟨B9, d9, rfl, -, -⟩ := OwnR.form ho9.recs
        obtain ⟨C9, e9, rfl, -, -⟩ := OwnR.form ho9.done
        have Ho9 := Lib.hid (ho9.lower (B' := w.heap.size) (by have := HS.out.size; omega))
        clear ho9
        have HSR := Lib.hid (HS.out.trans hsR)
        have HpR := Lib.hid ((HpR.out.keepAll hsR).lower (B' := w.heap.size) (by omega))
        have R2 := Lib.hid (R2.out.keep hsR trivial)
        have R3 := Lib.hid (R3.out.keep hsR trivial)
        have G1 := Lib.hid (G1.out.keep hsR trivial)
        have r2 := R2.out
        have r3 := R3.out
        have r4 := G1.out
        clear rr0 rr1 rr2 rr3 rr4 rr5 rr6 rr7 rr8 rr9 rr10 p0 p1 p2 p3 p4 p5 p6 p7 p8
        have x0 := r2.cell 0
        have x1 := r2.cell 1
        have x2 := r2.cell 2
        have x3 := r2.cell 3
        have x4 := r2.cell 4
        have x5 := r2.cell 5
        have x6 := r2.cell 6
        have x7 := r2.cell 7
        have x8 := r2.cell 8
        simp only [zeroPart, List.getElem?_cons_zero, List.getElem?_cons_succ] at x0 x1 x2 x3 x4 x5 x6 x7 x8
        have y0 := r2.frozen 0
        have y1 := r2.frozen 1
        have y2 := r2.frozen 2
        have y3 := r2.frozen 3
        have y4 := r2.frozen 4
        have y5 := r2.frozen 5
        have y6 := r2.frozen 6
        have y7 := r2.frozen 7
        have y8 := r2.frozen 8
        have t0 := r3.cell 0
        have t1 := r3.cell 1
        have t2 := r3.cell 2
        have t3 := r3.cell 3
        have t4 := r3.cell 4
        have t5 := r3.cell 5
        have t6 := r3.cell 6
        have t7 := r3.cell 7
        have t8 := r3.cell 8
        have t9 := r3.cell 9
        have t10 := r3.cell 10
        simp only [repCs, ReplyM.zero, List.getElem?_cons_zero, List.getElem?_cons_succ] at t0 t1 t2 t3 t4 t5 t6 t7 t8 t9 t10
        have u0 := r3.frozen 0
        have u1 := r3.frozen 1
        have u2 := r3.frozen 2
        have u3 := r3.frozen 3
        have u4 := r3.frozen 4
        have u5 := r3.frozen 5
        have u6 := r3.frozen 6
        have u7 := r3.frozen 7
        have u8 := r3.frozen 8
        have u9 := r3.frozen 9
        have u10 := r3.frozen 10
        have rr0 := r4.cell 0
        have rr1 := r4.cell 1
        have rr2 := r4.cell 2
        have rr3 := r4.cell 3
        have rr4 := r4.cell 4
        have rr5 := r4.cell 5
        have rr6 := r4.cell 6
        have rr7 := r4.cell 7
        have rr8 := r4.cell 8
        have rr9 := r4.cell 9
        have rr10 := r4.cell 10
        simp only [repCs, List.getElem?_cons_zero, List.getElem?_cons_succ] at rr0 rr1 rr2 rr3 rr4 rr5 rr6 rr7 rr8 rr9 rr10
        have z2 := r2.lt
        have z3_ := r3.lt
        clear r2 r3 r4 hsR
        go_wp2
        have q2 := R2.out.sets (partCs (.slice A9 p.cells.length c9) (.slice B9 p.recs.length d9) (.slice C9 p.done.length e9) p) 0
        have s2 := Same.sets (S := fun q => q ≠ w.heap.size + 1 + 1) (g := w.heap.size + 1 + 1) (fun h => h rfl) (partCs (.slice A9 p.cells.length c9) (.slice B9 p.recs.length d9) (.slice C9 p.done.length e9) p) 0 (Same.refl _ wR)
        have s3 := Same.sets (S := fun q => q ≠ w.heap.size + 1 + 1 + 1) (g := w.heap.size + 1 + 1 + 1) (fun h => h rfl) (repCs (.slice none R.pairs.length 0) R) 0 (Same.refl _ (setsW wR (w.heap.size + 1 + 1) 0 (partCs (.slice A9 p.cells.length c9) (.slice B9 p.recs.length d9) (.slice C9 p.done.length e9) p)))
        have q3 := (R3.out.keep s2 (by omega)).sets (repCs (.slice none R.pairs.length 0) R) 0
        rw [HF.out]
        exact bodyPost_ret (apply_results (show Row _ _ _ (partCs (.slice A9 p.cells.length c9) (.slice B9 p.recs.length d9) (.slice C9 p.done.length e9) p) from q2.keep s3 (by omega)) (show Row _ _ _ (repCs (.slice none R.pairs.length 0) R) from q3) rfl rfl) rfl ⟨_, _, _, _, rfl, (Ho9.out.keepG R2.out s2).keepRep (R3.out.keep s2 (by omega)) s3, OwnR.keepG (OwnR.keepG HpR.out R2.out (by decide) s2) (R3.out.keep s2 (by omega)) (by decide) s3, Same.sets' (by omega) (repCs (.slice none R.pairs.length 0) R) 0 (Same.sets' (by omega) (partCs (.slice A9 p.cells.length c9) (.slice B9 p.recs.length d9) (.slice C9 p.done.length e9) p) 0 HSR.out)⟩
  · rename (c.kind == 1) = false => hk0
    rename ¬p.epoch = 0 => he0
    rename (p.epoch == 0) = true ∨ (c.epoch != p.epoch) = true => hc0
    unfold Hid
    obtain ⟨R, hRe⟩ : ∃ R, R = repErr 25 := ⟨_, rfl⟩
    have HR := Lib.hid (show applyR p c = (p, R) by
      unfold applyR
      rw [if_neg (by simpa using hk0), if_pos (by simpa using hc0), hRe])
    clear hk0 he0 hc0
    have q5 := G1.out.set_ 0 (.int .i64 25)
    have s5 : Same (fun q => q ≠ w2.heap.size + 1) w3 (w3.setCell ⟨w2.heap.size + 1, 0, none⟩ (.int .i64 25)) := (Same.refl _ _).setCell (fun _ h => h rfl) _
    clear p0 p1 p2 p3 p4 p5 p6 p7 p8 c0 c1 c2 c3 c4 c5 c6 c7 c8 c9 c10 c11 c12 c13 rr0 f0 rr1 f1 rr2 f2 rr3 f3 rr4 f4 rr5 f5 rr6 f6 rr7 f7 rr8 f8 rr9 f9 rr10 f10 z4
    revert q5 s5
    generalize w3.setCell _ _ = w5
    intro q5 s5
    have HS := Lib.hid (HS.out.trans' s5 fun k hk _ => by omega)
    have HpR := Lib.hid (show OwnP w5 B (.slice none R.pairs.length 0) R.pairs by subst hRe; exact OwnR.nil _ _)
    have R0 := Lib.hid (R0.out.keep s5 (by omega))
    have R2 := Lib.hid (R2.out.keep s5 (by omega))
    have R3 := Lib.hid (R3.out.keep s5 (by omega))
    have G1 := Lib.hid (show Row w5 (w2.heap.size + 1) 85 (repCs (.slice none R.pairs.length 0) R) by subst hRe; exact q5)
    have hz : R.err ≠ 0 := by subst hRe; simp [repErr]
    clear s5 q5 hRe
    have r1 := G1.out
    have r0 := R0.out
    have rr0 := r1.cell 0
    have rr1 := r1.cell 1
    have rr2 := r1.cell 2
    have rr3 := r1.cell 3
    have rr4 := r1.cell 4
    have rr5 := r1.cell 5
    have rr6 := r1.cell 6
    have rr7 := r1.cell 7
    have rr8 := r1.cell 8
    have rr9 := r1.cell 9
    have rr10 := r1.cell 10
    simp only [repCs, List.getElem?_cons_zero, List.getElem?_cons_succ] at rr0 rr1 rr2 rr3 rr4 rr5 rr6 rr7 rr8 rr9 rr10
    have p0 := r0.cell 0
    have p1 := r0.cell 1
    have p2 := r0.cell 2
    have p3 := r0.cell 3
    have p4 := r0.cell 4
    have p5 := r0.cell 5
    have p6 := r0.cell 6
    have p7 := r0.cell 7
    have p8 := r0.cell 8
    simp only [List.getElem?_cons_zero, List.getElem?_cons_succ] at p0 p1 p2 p3 p4 p5 p6 p7 p8
    have z4 := r1.lt
    clear r1 r0
    have k9 : (R.err == 0) = false := by simp [hz]
    have HF := Lib.hid (show applyF p c = (p, R) by
      unfold applyF
      rw [HR.out]
      exact if_neg hz)
    clear hz
    go_wp2
    refine wp_region_tail_d (L := [.eq (partV (.slice A0 p.cells.length c0_) (.slice A1 p.recs.length c1_) (.slice A2 p.done.length c2_) p), .of ⟨fun v w => ∃ vc vr vd, v = partV vc vr vd p ∧ OwnPart w w5.heap.size vc vr vd p, fun _ _ _ ⟨vc, vr, vd, h1, h2⟩ k => ⟨vc, vr, vd, h1, h2.keepAll k⟩⟩, .eq (repV (.slice none R.pairs.length 0) R)]) 3 2 (by omega) (by kernel_rfl) (by kernel_rfl) rfl rfl rfl rfl rfl rfl ?_ ?_ ?_
    · refine ⟨?_, ?_, ?_, trivial⟩
      · intro ac wc hs hd hz hf hw K hK
        have e0 : ac.eval (.tmp 2) = (.pointer (some ⟨w.heap.size, 0, none⟩)) := hf 2 rfl
        have m0 : wc.cell? ⟨w.heap.size, 0, none⟩ = some (.int .i64 p.epoch) := hs.cell (p := ⟨w.heap.size, 0, none⟩) trivial p0
        have m1 : wc.cell? ⟨w.heap.size, 1, none⟩ = some (.int .i64 p.holder) := hs.cell (p := ⟨w.heap.size, 1, none⟩) trivial p1
        have m2 : wc.cell? ⟨w.heap.size, 2, none⟩ = some (.int .i64 p.floor.wall) := hs.cell (p := ⟨w.heap.size, 2, none⟩) trivial p2
        have m3 : wc.cell? ⟨w.heap.size, 3, none⟩ = some (.int .i64 p.floor.tie) := hs.cell (p := ⟨w.heap.size, 3, none⟩) trivial p3
        have m4 : wc.cell? ⟨w.heap.size, 4, none⟩ = some (.int .i64 p.closed) := hs.cell (p := ⟨w.heap.size, 4, none⟩) trivial p4
        have m5 : wc.cell? ⟨w.heap.size, 5, none⟩ = some (.int .i64 p.low) := hs.cell (p := ⟨w.heap.size, 5, none⟩) trivial p5
        have m6 : wc.cell? ⟨w.heap.size, 6, none⟩ = some (.slice A0 p.cells.length c0_) := hs.cell (p := ⟨w.heap.size, 6, none⟩) trivial p6
        have m7 : wc.cell? ⟨w.heap.size, 7, none⟩ = some (.slice A1 p.recs.length c1_) := hs.cell (p := ⟨w.heap.size, 7, none⟩) trivial p7
        have m8 : wc.cell? ⟨w.heap.size, 8, none⟩ = some (.slice A2 p.done.length c2_) := hs.cell (p := ⟨w.heap.size, 8, none⟩) trivial p8
        clear hd hz hf hw
        simp only [Region.wanted, if_true, Oper.wp, execOp, resolve, List.map_toArray, List.map_cons, List.map_nil, Option.map_some, Option.map_none, e0]
        go_simp
        exact hK _ _ rfl (Same.refl _ _)
      · intro ac wc hs hd hz hf hw K hK
        have e0 : ac.eval (.tmp 34) = (partV (.slice A0 p.cells.length c0_) (.slice A1 p.recs.length c1_) (.slice A2 p.done.length c2_) p) := hw 0 rfl
        clear hd hz hf hw
        simp only [Region.wanted, if_true, Oper.wp, execOp, resolve, List.map_toArray, List.map_cons, List.map_nil, Option.map_some, Option.map_none, e0]
        go_simp
        refine (twin_any _ _ _ p S wc (Hv.out.keepAll (HS.out.trans hs)) Hn.out).mono ?_
        rintro e wd ⟨vc9, vr9, vd9, rfl, ho9, hs9⟩
        exact hK _ _ ⟨vc9, vr9, vd9, rfl, ho9.lower hs.size⟩ hs9
      · intro ac wc hs hd hz hf hw K hK
        have e0 : ac.eval (.tmp 7) = (.pointer (some ⟨w2.heap.size + 1, 0, none⟩)) := hf 7 rfl
        have m0 : wc.cell? ⟨w2.heap.size + 1, 0, none⟩ = some (.int .i64 R.err) := hs.cell (p := ⟨w2.heap.size + 1, 0, none⟩) trivial rr0
        have m1 : wc.cell? ⟨w2.heap.size + 1, 1, none⟩ = some (.slice none R.pairs.length 0) := hs.cell (p := ⟨w2.heap.size + 1, 1, none⟩) trivial rr1
        have m2 : wc.cell? ⟨w2.heap.size + 1, 2, none⟩ = some (.int .i64 R.by_.node) := hs.cell (p := ⟨w2.heap.size + 1, 2, none⟩) trivial rr2
        have m3 : wc.cell? ⟨w2.heap.size + 1, 3, none⟩ = some (.int .i64 R.by_.life) := hs.cell (p := ⟨w2.heap.size + 1, 3, none⟩) trivial rr3
        have m4 : wc.cell? ⟨w2.heap.size + 1, 4, none⟩ = some (.int .i64 R.by_.seq) := hs.cell (p := ⟨w2.heap.size + 1, 4, none⟩) trivial rr4
        have m5 : wc.cell? ⟨w2.heap.size + 1, 5, none⟩ = some (.int .i64 R.by_.attempt) := hs.cell (p := ⟨w2.heap.size + 1, 5, none⟩) trivial rr5
        have m6 : wc.cell? ⟨w2.heap.size + 1, 6, none⟩ = some (.int .i64 R.home) := hs.cell (p := ⟨w2.heap.size + 1, 6, none⟩) trivial rr6
        have m7 : wc.cell? ⟨w2.heap.size + 1, 7, none⟩ = some (.int .i64 R.at_.wall) := hs.cell (p := ⟨w2.heap.size + 1, 7, none⟩) trivial rr7
        have m8 : wc.cell? ⟨w2.heap.size + 1, 8, none⟩ = some (.int .i64 R.at_.tie) := hs.cell (p := ⟨w2.heap.size + 1, 8, none⟩) trivial rr8
        have m9 : wc.cell? ⟨w2.heap.size + 1, 9, none⟩ = some (.int .i64 R.wall) := hs.cell (p := ⟨w2.heap.size + 1, 9, none⟩) trivial rr9
        have m10 : wc.cell? ⟨w2.heap.size + 1, 10, none⟩ = some (.bool R.yes) := hs.cell (p := ⟨w2.heap.size + 1, 10, none⟩) trivial rr10
        clear hd hz hf hw
        simp only [Region.wanted, if_true, Oper.wp, execOp, resolve, List.map_toArray, List.map_cons, List.map_nil, Option.map_some, Option.map_none, e0]
        go_simp
        exact hK _ _ rfl (Same.refl _ _)
    · intro vs wR hvl hvp hsR
      rcases vs with _ | ⟨z0, _ | ⟨z1, _ | ⟨z2, _ | ⟨zz, zr⟩⟩⟩⟩
      rotate_right 1
      · simp at hvl
      · simp at hvl
      · simp at hvl
      · simp at hvl
      · obtain rfl : z0 = (partV (.slice A0 p.cells.length c0_) (.slice A1 p.recs.length c1_) (.slice A2 p.done.length c2_) p) := hvp 0 (by omega)
        have hx35 : (⟨fun v w => ∃ vc vr vd, v = partV vc vr vd p ∧ OwnPart w w5.heap.size vc vr vd p, fun _ _ _ ⟨vc, vr, vd, h1, h2⟩ k => ⟨vc, vr, vd, h1, h2.keepAll k⟩⟩ : SP).p z1 wR := hvp 1 (by omega)
        obtain rfl : z2 = (repV (.slice none R.pairs.length 0) R) := hvp 2 (by omega)
        clear hvl hvp
        simp only [putAll, Act.put, List.setIfInBounds_toArray, List.set_cons_succ, List.set_cons_zero, List.take_succ_cons, List.take_zero, List.drop_succ_cons, List.drop_zero, List.eraseIdx_cons_succ, List.eraseIdx_cons_zero]
        obtain ⟨vc9, vr9, vd9, rfl, ho9⟩ := hx35
        obtain ⟨A9, c9, rfl, -, -⟩ := ho9.cells.form
        obtain ⟨B9, d9, rfl, -, -⟩ := OwnR.form ho9.recs
        obtain ⟨C9, e9, rfl, -, -⟩ := OwnR.form ho9.done
        have Ho9 := Lib.hid (ho9.lower (B' := w.heap.size) (by have := HS.out.size; omega))
        clear ho9
        have HSR := Lib.hid (HS.out.trans hsR)
        have HpR := Lib.hid ((HpR.out.keepAll hsR).lower (B' := w.heap.size) (by omega))
        have R2 := Lib.hid (R2.out.keep hsR trivial)
        have R3 := Lib.hid (R3.out.keep hsR trivial)
        have G1 := Lib.hid (G1.out.keep hsR trivial)
        have r2 := R2.out
        have r3 := R3.out
        have r4 := G1.out
        clear rr0 rr1 rr2 rr3 rr4 rr5 rr6 rr7 rr8 rr9 rr10 p0 p1 p2 p3 p4 p5 p6 p7 p8
        have x0 := r2.cell 0
        have x1 := r2.cell 1
        have x2 := r2.cell 2
        have x3 := r2.cell 3
        have x4 := r2.cell 4
        have x5 := r2.cell 5
        have x6 := r2.cell 6
        have x7 := r2.cell 7
        have x8 := r2.cell 8
        simp only [zeroPart, List.getElem?_cons_zero, List.getElem?_cons_succ] at x0 x1 x2 x3 x4 x5 x6 x7 x8
        have y0 := r2.frozen 0
        have y1 := r2.frozen 1
        have y2 := r2.frozen 2
        have y3 := r2.frozen 3
        have y4 := r2.frozen 4
        have y5 := r2.frozen 5
        have y6 := r2.frozen 6
        have y7 := r2.frozen 7
        have y8 := r2.frozen 8
        have t0 := r3.cell 0
        have t1 := r3.cell 1
        have t2 := r3.cell 2
        have t3 := r3.cell 3
        have t4 := r3.cell 4
        have t5 := r3.cell 5
        have t6 := r3.cell 6
        have t7 := r3.cell 7
        have t8 := r3.cell 8
        have t9 := r3.cell 9
        have t10 := r3.cell 10
        simp only [repCs, ReplyM.zero, List.getElem?_cons_zero, List.getElem?_cons_succ] at t0 t1 t2 t3 t4 t5 t6 t7 t8 t9 t10
        have u0 := r3.frozen 0
        have u1 := r3.frozen 1
        have u2 := r3.frozen 2
        have u3 := r3.frozen 3
        have u4 := r3.frozen 4
        have u5 := r3.frozen 5
        have u6 := r3.frozen 6
        have u7 := r3.frozen 7
        have u8 := r3.frozen 8
        have u9 := r3.frozen 9
        have u10 := r3.frozen 10
        have rr0 := r4.cell 0
        have rr1 := r4.cell 1
        have rr2 := r4.cell 2
        have rr3 := r4.cell 3
        have rr4 := r4.cell 4
        have rr5 := r4.cell 5
        have rr6 := r4.cell 6
        have rr7 := r4.cell 7
        have rr8 := r4.cell 8
        have rr9 := r4.cell 9
        have rr10 := r4.cell 10
        simp only [repCs, List.getElem?_cons_zero, List.getElem?_cons_succ] at rr0 rr1 rr2 rr3 rr4 rr5 rr6 rr7 rr8 rr9 rr10
        have z2 := r2.lt
        have z3_ := r3.lt
        clear r2 r3 r4 hsR
        go_wp2
        have q2 := R2.out.sets (partCs (.slice A9 p.cells.length c9) (.slice B9 p.recs.length d9) (.slice C9 p.done.length e9) p) 0
        have s2 := Same.sets (S := fun q => q ≠ w.heap.size + 1 + 1) (g := w.heap.size + 1 + 1) (fun h => h rfl) (partCs (.slice A9 p.cells.length c9) (.slice B9 p.recs.length d9) (.slice C9 p.done.length e9) p) 0 (Same.refl _ wR)
        have s3 := Same.sets (S := fun q => q ≠ w.heap.size + 1 + 1 + 1) (g := w.heap.size + 1 + 1 + 1) (fun h => h rfl) (repCs (.slice none R.pairs.length 0) R) 0 (Same.refl _ (setsW wR (w.heap.size + 1 + 1) 0 (partCs (.slice A9 p.cells.length c9) (.slice B9 p.recs.length d9) (.slice C9 p.done.length e9) p)))
        have q3 := (R3.out.keep s2 (by omega)).sets (repCs (.slice none R.pairs.length 0) R) 0
        rw [HF.out]
        exact bodyPost_ret (apply_results (show Row _ _ _ (partCs (.slice A9 p.cells.length c9) (.slice B9 p.recs.length d9) (.slice C9 p.done.length e9) p) from q2.keep s3 (by omega)) (show Row _ _ _ (repCs (.slice none R.pairs.length 0) R) from q3) rfl rfl) rfl ⟨_, _, _, _, rfl, (Ho9.out.keepG R2.out s2).keepRep (R3.out.keep s2 (by omega)) s3, OwnR.keepG (OwnR.keepG HpR.out R2.out (by decide) s2) (R3.out.keep s2 (by omega)) (by decide) s3, Same.sets' (by omega) (repCs (.slice none R.pairs.length 0) R) 0 (Same.sets' (by omega) (partCs (.slice A9 p.cells.length c9) (.slice B9 p.recs.length d9) (.slice C9 p.done.length e9) p) 0 HSR.out)⟩
    · intro vs wR hvl hvp hsR
      rcases vs with _ | ⟨z0, _ | ⟨z1, _ | ⟨zz, zr⟩⟩⟩
      rotate_right 1
      · simp at hvl
      · simp at hvl
      · simp at hvl
      · obtain rfl : z0 = (partV (.slice A0 p.cells.length c0_) (.slice A1 p.recs.length c1_) (.slice A2 p.done.length c2_) p) := hvp 0 (by omega)
        have hx35 : (⟨fun v w => ∃ vc vr vd, v = partV vc vr vd p ∧ OwnPart w w5.heap.size vc vr vd p, fun _ _ _ ⟨vc, vr, vd, h1, h2⟩ k => ⟨vc, vr, vd, h1, h2.keepAll k⟩⟩ : SP).p z1 wR := hvp 1 (by omega)
        clear hvl hvp
        simp only [putAll, Act.put, List.setIfInBounds_toArray, List.set_cons_succ, List.set_cons_zero, List.take_succ_cons, List.take_zero, List.drop_succ_cons, List.drop_zero, List.eraseIdx_cons_succ, List.eraseIdx_cons_zero]
        obtain ⟨vc9, vr9, vd9, rfl, ho9⟩ := hx35
        obtain ⟨A9, c9, rfl, -, -⟩ := ho9.cells.form
        obtain ⟨B9, d9, rfl, -, -⟩ := OwnR.form ho9.recs
        obtain ⟨C9, e9, rfl, -, -⟩ := OwnR.form ho9.done
        have Ho9 := Lib.hid (ho9.lower (B' := w.heap.size) (by have := HS.out.size; omega))
        clear ho9
        have HSR := Lib.hid (HS.out.trans hsR)
        have HpR := Lib.hid ((HpR.out.keepAll hsR).lower (B' := w.heap.size) (by omega))
        have R2 := Lib.hid (R2.out.keep hsR trivial)
        have R3 := Lib.hid (R3.out.keep hsR trivial)
        have G1 := Lib.hid (G1.out.keep hsR trivial)
        have r2 := R2.out
        have r3 := R3.out
        have r4 := G1.out
        clear rr0 rr1 rr2 rr3 rr4 rr5 rr6 rr7 rr8 rr9 rr10 p0 p1 p2 p3 p4 p5 p6 p7 p8
        have x0 := r2.cell 0
        have x1 := r2.cell 1
        have x2 := r2.cell 2
        have x3 := r2.cell 3
        have x4 := r2.cell 4
        have x5 := r2.cell 5
        have x6 := r2.cell 6
        have x7 := r2.cell 7
        have x8 := r2.cell 8
        simp only [zeroPart, List.getElem?_cons_zero, List.getElem?_cons_succ] at x0 x1 x2 x3 x4 x5 x6 x7 x8
        have y0 := r2.frozen 0
        have y1 := r2.frozen 1
        have y2 := r2.frozen 2
        have y3 := r2.frozen 3
        have y4 := r2.frozen 4
        have y5 := r2.frozen 5
        have y6 := r2.frozen 6
        have y7 := r2.frozen 7
        have y8 := r2.frozen 8
        have t0 := r3.cell 0
        have t1 := r3.cell 1
        have t2 := r3.cell 2
        have t3 := r3.cell 3
        have t4 := r3.cell 4
        have t5 := r3.cell 5
        have t6 := r3.cell 6
        have t7 := r3.cell 7
        have t8 := r3.cell 8
        have t9 := r3.cell 9
        have t10 := r3.cell 10
        simp only [repCs, ReplyM.zero, List.getElem?_cons_zero, List.getElem?_cons_succ] at t0 t1 t2 t3 t4 t5 t6 t7 t8 t9 t10
        have u0 := r3.frozen 0
        have u1 := r3.frozen 1
        have u2 := r3.frozen 2
        have u3 := r3.frozen 3
        have u4 := r3.frozen 4
        have u5 := r3.frozen 5
        have u6 := r3.frozen 6
        have u7 := r3.frozen 7
        have u8 := r3.frozen 8
        have u9 := r3.frozen 9
        have u10 := r3.frozen 10
        have rr0 := r4.cell 0
        have rr1 := r4.cell 1
        have rr2 := r4.cell 2
        have rr3 := r4.cell 3
        have rr4 := r4.cell 4
        have rr5 := r4.cell 5
        have rr6 := r4.cell 6
        have rr7 := r4.cell 7
        have rr8 := r4.cell 8
        have rr9 := r4.cell 9
        have rr10 := r4.cell 10
        simp only [repCs, List.getElem?_cons_zero, List.getElem?_cons_succ] at rr0 rr1 rr2 rr3 rr4 rr5 rr6 rr7 rr8 rr9 rr10
        have z2 := r2.lt
        have z3_ := r3.lt
        clear r2 r3 r4 hsR
        go_wp2
        have q2 := R2.out.sets (partCs (.slice A9 p.cells.length c9) (.slice B9 p.recs.length d9) (.slice C9 p.done.length e9) p) 0
        have s2 := Same.sets (S := fun q => q ≠ w.heap.size + 1 + 1) (g := w.heap.size + 1 + 1) (fun h => h rfl) (partCs (.slice A9 p.cells.length c9) (.slice B9 p.recs.length d9) (.slice C9 p.done.length e9) p) 0 (Same.refl _ wR)
        have s3 := Same.sets (S := fun q => q ≠ w.heap.size + 1 + 1 + 1) (g := w.heap.size + 1 + 1 + 1) (fun h => h rfl) (repCs (.slice none R.pairs.length 0) R) 0 (Same.refl _ (setsW wR (w.heap.size + 1 + 1) 0 (partCs (.slice A9 p.cells.length c9) (.slice B9 p.recs.length d9) (.slice C9 p.done.length e9) p)))
        have q3 := (R3.out.keep s2 (by omega)).sets (repCs (.slice none R.pairs.length 0) R) 0
        rw [HF.out]
        exact bodyPost_ret (apply_results (show Row _ _ _ (partCs (.slice A9 p.cells.length c9) (.slice B9 p.recs.length d9) (.slice C9 p.done.length e9) p) from q2.keep s3 (by omega)) (show Row _ _ _ (repCs (.slice none R.pairs.length 0) R) from q3) rfl rfl) rfl ⟨_, _, _, _, rfl, (Ho9.out.keepG R2.out s2).keepRep (R3.out.keep s2 (by omega)) s3, OwnR.keepG (OwnR.keepG HpR.out R2.out (by decide) s2) (R3.out.keep s2 (by omega)) (by decide) s3, Same.sets' (by omega) (repCs (.slice none R.pairs.length 0) R) 0 (Same.sets' (by omega) (partCs (.slice A9 p.cells.length c9) (.slice B9 p.recs.length d9) (.slice C9 p.done.length e9) p) 0 HSR.out)⟩
  · unfold Hid
    obtain ⟨Q, R, hA⟩ : ∃ Q R, doesF p c = (Q, R) := ⟨_, _, rfl⟩
    have HR := Lib.hid (show applyR p c = (Q, R) by
      unfold applyR
      rw [if_neg (by simpa using (‹(c.kind == 1) = false›)), if_neg (by
        have h1 := (‹(p.epoch == 0) = false ∧ (c.epoch != p.epoch) = false›)
        simpa using h1)]
      exact hA)
    have gl := does_any w2.heap.size B N (fun k => k < w.heap.size) (.slice Ac p.cells.length cc) (.slice Ar p.recs.length cr) (.slice Ad p.done.length cd) (.slice As c.spans.length cs_) (.slice Aw c.writes.length cw_) p c w3 G0.out Hown.out hB (by omega) Hf.out hN Hn.out (RowR.keepAll Hsp.out HS.out) (RowR.keepAll Hwr.out HS.out) (fun k hk => by omega)
    rw [hA] at gl
    clear hA
    refine gl.mono ?_
    rintro e w4 ⟨vq, vr', vd', vp, rfl, hrow, hoQ, hpair, hsd⟩
    obtain ⟨Ap, cp, rfl, -, -⟩ := OwnP.form hpair
    obtain ⟨Aq, cq, rfl, -, -⟩ := hoQ.cells.form
    obtain ⟨Bq, dq, rfl, -, -⟩ := OwnR.form hoQ.recs
    obtain ⟨Cq, eq_, rfl, -, -⟩ := OwnR.form hoQ.done
    have G1 := Lib.hid (G1.out.keep hsd (Hown.out.sdRow G1.out (by decide) (by omega)))
    have R0 := Lib.hid (R0.out.keep hsd (Hown.out.sd hB (by omega)))
    have R2 := Lib.hid (R2.out.keep hsd (Hown.out.sd hB (by omega)))
    have R3 := Lib.hid (R3.out.keep hsd (Hown.out.sd hB (by omega)))
    have HS := Lib.hid (HS.out.trans' hsd fun k hk _ => Hown.out.sd hB (by omega))
    have HRow := Lib.hid hrow
    have HoQ := Lib.hid hoQ
    have HpR := Lib.hid hpair
    clear p0 p1 p2 p3 p4 p5 p6 p7 p8 c0 c1 c2 c3 c4 c5 c6 c7 c8 c9 c10 c11 c12 c13 rr0 f0 rr1 f1 rr2 f2 rr3 f3 rr4 f4 rr5 f5 rr6 f6 rr7 f7 rr8 f8 rr9 f9 rr10 f10 z4
    clear hrow hoQ hpair hsd gl
    have r1 := G1.out
    have rr0 := r1.cell 0
    have rr1 := r1.cell 1
    have rr2 := r1.cell 2
    have rr3 := r1.cell 3
    have rr4 := r1.cell 4
    have rr5 := r1.cell 5
    have rr6 := r1.cell 6
    have rr7 := r1.cell 7
    have rr8 := r1.cell 8
    have rr9 := r1.cell 9
    have rr10 := r1.cell 10
    simp only [List.getElem?_cons_zero, List.getElem?_cons_succ] at rr0 rr1 rr2 rr3 rr4 rr5 rr6 rr7 rr8 rr9 rr10
    have f0 := r1.frozen 0
    have f1 := r1.frozen 1
    have f2 := r1.frozen 2
    have f3 := r1.frozen 3
    have f4 := r1.frozen 4
    have f5 := r1.frozen 5
    have f6 := r1.frozen 6
    have f7 := r1.frozen 7
    have f8 := r1.frozen 8
    have f9 := r1.frozen 9
    have f10 := r1.frozen 10
    have z4 := r1.lt
    clear r1
    go_wp2_with (with_reducible refine stopDst 32 rfl ?_)
    unfold Hid
    have s5 := Same.sets (S := fun q => q ≠ w2.heap.size + 1) (g := w2.heap.size + 1) (fun h => h rfl) (repCs (.slice Ap R.pairs.length cp) R) 0 (Same.refl _ w4)
    have q5 := G1.out.sets (repCs (.slice Ap R.pairs.length cp) R) 0
    clear rr0 f0 rr1 f1 rr2 f2 rr3 f3 rr4 f4 rr5 f5 rr6 f6 rr7 f7 rr8 f8 rr9 f9 rr10 f10 z4
    obtain ⟨w5, hw5⟩ : ∃ w5, w5 = setsW w4 (w2.heap.size + 1) 0 (repCs (.slice Ap R.pairs.length cp) R) := ⟨_, rfl⟩
    rw [← hw5] at s5 q5
    simp only [setsW, repCs, Nat.zero_add, Nat.reduceAdd] at hw5
    rw [← hw5]
    clear hw5
    have HS := Lib.hid (HS.out.trans' s5 fun k hk _ => by omega)
    have HoQ := Lib.hid (HoQ.out.keepRep G1.out s5)
    have HpR := Lib.hid (OwnR.keepG HpR.out G1.out (by decide) s5)
    have G0 := Lib.hid (HRow.out.keep s5 (by omega))
    have R0 := Lib.hid (R0.out.keep s5 (by omega))
    have R2 := Lib.hid (R2.out.keep s5 (by omega))
    have R3 := Lib.hid (R3.out.keep s5 (by omega))
    have G1 := Lib.hid (show Row w5 (w2.heap.size + 1) 85 (repCs (.slice Ap R.pairs.length cp) R) from q5)
    clear s5 q5 HRow
    have r1 := G1.out
    have r0 := R0.out
    have rr0 := r1.cell 0
    have rr1 := r1.cell 1
    have rr2 := r1.cell 2
    have rr3 := r1.cell 3
    have rr4 := r1.cell 4
    have rr5 := r1.cell 5
    have rr6 := r1.cell 6
    have rr7 := r1.cell 7
    have rr8 := r1.cell 8
    have rr9 := r1.cell 9
    have rr10 := r1.cell 10
    simp only [repCs, List.getElem?_cons_zero, List.getElem?_cons_succ] at rr0 rr1 rr2 rr3 rr4 rr5 rr6 rr7 rr8 rr9 rr10
    have p0 := r0.cell 0
    have p1 := r0.cell 1
    have p2 := r0.cell 2
    have p3 := r0.cell 3
    have p4 := r0.cell 4
    have p5 := r0.cell 5
    have p6 := r0.cell 6
    have p7 := r0.cell 7
    have p8 := r0.cell 8
    simp only [List.getElem?_cons_zero, List.getElem?_cons_succ] at p0 p1 p2 p3 p4 p5 p6 p7 p8
    have z4 := r1.lt
    clear r1 r0
    by_cases hz : R.err = 0
    · have k9 : (R.err == 0) = true := by simp [hz]
      have HF := Lib.hid (show applyF p c = (Q, R) by
        unfold applyF
        rw [HR.out]
        exact if_pos hz)
      clear hz
      have r0 := G0.out
      have q0 := r0.cell 0
      have q1 := r0.cell 1
      have q2 := r0.cell 2
      have q3 := r0.cell 3
      have q4 := r0.cell 4
      have q5 := r0.cell 5
      have q6 := r0.cell 6
      have q7 := r0.cell 7
      have q8 := r0.cell 8
      simp only [partCs, List.getElem?_cons_zero, List.getElem?_cons_succ] at q0 q1 q2 q3 q4 q5 q6 q7 q8
      clear r0
      go_wp2
      refine wp_region_tail_d (L := [.eq (partV (.slice Aq Q.cells.length cq) (.slice Bq Q.recs.length dq) (.slice Cq Q.done.length eq_) Q), .eq (repV (.slice Ap R.pairs.length cp) R)]) 2 1 (by omega) (by kernel_rfl) (by kernel_rfl) rfl rfl rfl rfl rfl rfl ?_ ?_ ?_
      · refine ⟨?_, ?_, trivial⟩
        · intro ac wc hs hd hz hf hw K hK
          have e0 : ac.eval (.tmp 6) = (.pointer (some ⟨w2.heap.size, 0, none⟩)) := hf 6 rfl
          have m0 : wc.cell? ⟨w2.heap.size, 0, none⟩ = some (.int .i64 Q.epoch) := hs.cell (p := ⟨w2.heap.size, 0, none⟩) trivial q0
          have m1 : wc.cell? ⟨w2.heap.size, 1, none⟩ = some (.int .i64 Q.holder) := hs.cell (p := ⟨w2.heap.size, 1, none⟩) trivial q1
          have m2 : wc.cell? ⟨w2.heap.size, 2, none⟩ = some (.int .i64 Q.floor.wall) := hs.cell (p := ⟨w2.heap.size, 2, none⟩) trivial q2
          have m3 : wc.cell? ⟨w2.heap.size, 3, none⟩ = some (.int .i64 Q.floor.tie) := hs.cell (p := ⟨w2.heap.size, 3, none⟩) trivial q3
          have m4 : wc.cell? ⟨w2.heap.size, 4, none⟩ = some (.int .i64 Q.closed) := hs.cell (p := ⟨w2.heap.size, 4, none⟩) trivial q4
          have m5 : wc.cell? ⟨w2.heap.size, 5, none⟩ = some (.int .i64 Q.low) := hs.cell (p := ⟨w2.heap.size, 5, none⟩) trivial q5
          have m6 : wc.cell? ⟨w2.heap.size, 6, none⟩ = some (.slice Aq Q.cells.length cq) := hs.cell (p := ⟨w2.heap.size, 6, none⟩) trivial q6
          have m7 : wc.cell? ⟨w2.heap.size, 7, none⟩ = some (.slice Bq Q.recs.length dq) := hs.cell (p := ⟨w2.heap.size, 7, none⟩) trivial q7
          have m8 : wc.cell? ⟨w2.heap.size, 8, none⟩ = some (.slice Cq Q.done.length eq_) := hs.cell (p := ⟨w2.heap.size, 8, none⟩) trivial q8
          clear hd hz hf hw
          simp only [Region.wanted, if_true, Oper.wp, execOp, resolve, List.map_toArray, List.map_cons, List.map_nil, Option.map_some, Option.map_none, e0]
          go_simp
          exact hK _ _ rfl (Same.refl _ _)
        · intro ac wc hs hd hz hf hw K hK
          have e0 : ac.eval (.tmp 7) = (.pointer (some ⟨w2.heap.size + 1, 0, none⟩)) := hf 7 rfl
          have m0 : wc.cell? ⟨w2.heap.size + 1, 0, none⟩ = some (.int .i64 R.err) := hs.cell (p := ⟨w2.heap.size + 1, 0, none⟩) trivial rr0
          have m1 : wc.cell? ⟨w2.heap.size + 1, 1, none⟩ = some (.slice Ap R.pairs.length cp) := hs.cell (p := ⟨w2.heap.size + 1, 1, none⟩) trivial rr1
          have m2 : wc.cell? ⟨w2.heap.size + 1, 2, none⟩ = some (.int .i64 R.by_.node) := hs.cell (p := ⟨w2.heap.size + 1, 2, none⟩) trivial rr2
          have m3 : wc.cell? ⟨w2.heap.size + 1, 3, none⟩ = some (.int .i64 R.by_.life) := hs.cell (p := ⟨w2.heap.size + 1, 3, none⟩) trivial rr3
          have m4 : wc.cell? ⟨w2.heap.size + 1, 4, none⟩ = some (.int .i64 R.by_.seq) := hs.cell (p := ⟨w2.heap.size + 1, 4, none⟩) trivial rr4
          have m5 : wc.cell? ⟨w2.heap.size + 1, 5, none⟩ = some (.int .i64 R.by_.attempt) := hs.cell (p := ⟨w2.heap.size + 1, 5, none⟩) trivial rr5
          have m6 : wc.cell? ⟨w2.heap.size + 1, 6, none⟩ = some (.int .i64 R.home) := hs.cell (p := ⟨w2.heap.size + 1, 6, none⟩) trivial rr6
          have m7 : wc.cell? ⟨w2.heap.size + 1, 7, none⟩ = some (.int .i64 R.at_.wall) := hs.cell (p := ⟨w2.heap.size + 1, 7, none⟩) trivial rr7
          have m8 : wc.cell? ⟨w2.heap.size + 1, 8, none⟩ = some (.int .i64 R.at_.tie) := hs.cell (p := ⟨w2.heap.size + 1, 8, none⟩) trivial rr8
          have m9 : wc.cell? ⟨w2.heap.size + 1, 9, none⟩ = some (.int .i64 R.wall) := hs.cell (p := ⟨w2.heap.size + 1, 9, none⟩) trivial rr9
          have m10 : wc.cell? ⟨w2.heap.size + 1, 10, none⟩ = some (.bool R.yes) := hs.cell (p := ⟨w2.heap.size + 1, 10, none⟩) trivial rr10
          clear hd hz hf hw
          simp only [Region.wanted, if_true, Oper.wp, execOp, resolve, List.map_toArray, List.map_cons, List.map_nil, Option.map_some, Option.map_none, e0]
          go_simp
          exact hK _ _ rfl (Same.refl _ _)
      · intro vs wR hvl hvp hsR
        rcases vs with _ | ⟨z0, _ | ⟨z1, _ | ⟨zz, zr⟩⟩⟩
        rotate_right 1
        · simp at hvl
        · simp at hvl
        · simp at hvl
        · obtain rfl : z0 = (partV (.slice Aq Q.cells.length cq) (.slice Bq Q.recs.length dq) (.slice Cq Q.done.length eq_) Q) := hvp 0 (by omega)
          obtain rfl : z1 = (repV (.slice Ap R.pairs.length cp) R) := hvp 1 (by omega)
          clear hvl hvp
          simp only [putAll, Act.put, List.setIfInBounds_toArray, List.set_cons_succ, List.set_cons_zero, List.take_succ_cons, List.take_zero, List.drop_succ_cons, List.drop_zero, List.eraseIdx_cons_succ, List.eraseIdx_cons_zero]
          have Ho9 := Lib.hid ((HoQ.out.keepAll hsR).lower (B' := w.heap.size) (by omega))
          have HSR := Lib.hid (HS.out.trans hsR)
          have HpR := Lib.hid ((HpR.out.keepAll hsR).lower (B' := w.heap.size) (by omega))
          have R2 := Lib.hid (R2.out.keep hsR trivial)
          have R3 := Lib.hid (R3.out.keep hsR trivial)
          have G1 := Lib.hid (G1.out.keep hsR trivial)
          have r2 := R2.out
          have r3 := R3.out
          have r4 := G1.out
          clear rr0 rr1 rr2 rr3 rr4 rr5 rr6 rr7 rr8 rr9 rr10 p0 p1 p2 p3 p4 p5 p6 p7 p8 q0 q1 q2 q3 q4 q5 q6 q7 q8
          have x0 := r2.cell 0
          have x1 := r2.cell 1
          have x2 := r2.cell 2
          have x3 := r2.cell 3
          have x4 := r2.cell 4
          have x5 := r2.cell 5
          have x6 := r2.cell 6
          have x7 := r2.cell 7
          have x8 := r2.cell 8
          simp only [zeroPart, List.getElem?_cons_zero, List.getElem?_cons_succ] at x0 x1 x2 x3 x4 x5 x6 x7 x8
          have y0 := r2.frozen 0
          have y1 := r2.frozen 1
          have y2 := r2.frozen 2
          have y3 := r2.frozen 3
          have y4 := r2.frozen 4
          have y5 := r2.frozen 5
          have y6 := r2.frozen 6
          have y7 := r2.frozen 7
          have y8 := r2.frozen 8
          have t0 := r3.cell 0
          have t1 := r3.cell 1
          have t2 := r3.cell 2
          have t3 := r3.cell 3
          have t4 := r3.cell 4
          have t5 := r3.cell 5
          have t6 := r3.cell 6
          have t7 := r3.cell 7
          have t8 := r3.cell 8
          have t9 := r3.cell 9
          have t10 := r3.cell 10
          simp only [repCs, ReplyM.zero, List.getElem?_cons_zero, List.getElem?_cons_succ] at t0 t1 t2 t3 t4 t5 t6 t7 t8 t9 t10
          have u0 := r3.frozen 0
          have u1 := r3.frozen 1
          have u2 := r3.frozen 2
          have u3 := r3.frozen 3
          have u4 := r3.frozen 4
          have u5 := r3.frozen 5
          have u6 := r3.frozen 6
          have u7 := r3.frozen 7
          have u8 := r3.frozen 8
          have u9 := r3.frozen 9
          have u10 := r3.frozen 10
          have rr0 := r4.cell 0
          have rr1 := r4.cell 1
          have rr2 := r4.cell 2
          have rr3 := r4.cell 3
          have rr4 := r4.cell 4
          have rr5 := r4.cell 5
          have rr6 := r4.cell 6
          have rr7 := r4.cell 7
          have rr8 := r4.cell 8
          have rr9 := r4.cell 9
          have rr10 := r4.cell 10
          simp only [repCs, List.getElem?_cons_zero, List.getElem?_cons_succ] at rr0 rr1 rr2 rr3 rr4 rr5 rr6 rr7 rr8 rr9 rr10
          have z2 := r2.lt
          have z3_ := r3.lt
          clear r2 r3 r4 hsR
          go_wp2
          have q2 := R2.out.sets (partCs (.slice Aq Q.cells.length cq) (.slice Bq Q.recs.length dq) (.slice Cq Q.done.length eq_) Q) 0
          have s2 := Same.sets (S := fun q => q ≠ w.heap.size + 1 + 1) (g := w.heap.size + 1 + 1) (fun h => h rfl) (partCs (.slice Aq Q.cells.length cq) (.slice Bq Q.recs.length dq) (.slice Cq Q.done.length eq_) Q) 0 (Same.refl _ wR)
          have s3 := Same.sets (S := fun q => q ≠ w.heap.size + 1 + 1 + 1) (g := w.heap.size + 1 + 1 + 1) (fun h => h rfl) (repCs (.slice Ap R.pairs.length cp) R) 0 (Same.refl _ (setsW wR (w.heap.size + 1 + 1) 0 (partCs (.slice Aq Q.cells.length cq) (.slice Bq Q.recs.length dq) (.slice Cq Q.done.length eq_) Q)))
          have q3 := (R3.out.keep s2 (by omega)).sets (repCs (.slice Ap R.pairs.length cp) R) 0
          rw [HF.out]
          exact bodyPost_ret (apply_results (show Row _ _ _ (partCs (.slice Aq Q.cells.length cq) (.slice Bq Q.recs.length dq) (.slice Cq Q.done.length eq_) Q) from q2.keep s3 (by omega)) (show Row _ _ _ (repCs (.slice Ap R.pairs.length cp) R) from q3) rfl rfl) rfl ⟨_, _, _, _, rfl, (Ho9.out.keepG R2.out s2).keepRep (R3.out.keep s2 (by omega)) s3, OwnR.keepG (OwnR.keepG HpR.out R2.out (by decide) s2) (R3.out.keep s2 (by omega)) (by decide) s3, Same.sets' (by omega) (repCs (.slice Ap R.pairs.length cp) R) 0 (Same.sets' (by omega) (partCs (.slice Aq Q.cells.length cq) (.slice Bq Q.recs.length dq) (.slice Cq Q.done.length eq_) Q) 0 HSR.out)⟩
      · intro vs wR hvl hvp hsR
        rcases vs with _ | ⟨z0, _ | ⟨zz, zr⟩⟩
        rotate_right 1
        · simp at hvl
        · simp at hvl
        · obtain rfl : z0 = (partV (.slice Aq Q.cells.length cq) (.slice Bq Q.recs.length dq) (.slice Cq Q.done.length eq_) Q) := hvp 0 (by omega)
          clear hvl hvp
          simp only [putAll, Act.put, List.setIfInBounds_toArray, List.set_cons_succ, List.set_cons_zero, List.take_succ_cons, List.take_zero, List.drop_succ_cons, List.drop_zero, List.eraseIdx_cons_succ, List.eraseIdx_cons_zero]
          have Ho9 := Lib.hid ((HoQ.out.keepAll hsR).lower (B' := w.heap.size) (by omega))
          have HSR := Lib.hid (HS.out.trans hsR)
          have HpR := Lib.hid ((HpR.out.keepAll hsR).lower (B' := w.heap.size) (by omega))
          have R2 := Lib.hid (R2.out.keep hsR trivial)
          have R3 := Lib.hid (R3.out.keep hsR trivial)
          have G1 := Lib.hid (G1.out.keep hsR trivial)
          have r2 := R2.out
          have r3 := R3.out
          have r4 := G1.out
          clear rr0 rr1 rr2 rr3 rr4 rr5 rr6 rr7 rr8 rr9 rr10 p0 p1 p2 p3 p4 p5 p6 p7 p8 q0 q1 q2 q3 q4 q5 q6 q7 q8
          have x0 := r2.cell 0
          have x1 := r2.cell 1
          have x2 := r2.cell 2
          have x3 := r2.cell 3
          have x4 := r2.cell 4
          have x5 := r2.cell 5
          have x6 := r2.cell 6
          have x7 := r2.cell 7
          have x8 := r2.cell 8
          simp only [zeroPart, List.getElem?_cons_zero, List.getElem?_cons_succ] at x0 x1 x2 x3 x4 x5 x6 x7 x8
          have y0 := r2.frozen 0
          have y1 := r2.frozen 1
          have y2 := r2.frozen 2
          have y3 := r2.frozen 3
          have y4 := r2.frozen 4
          have y5 := r2.frozen 5
          have y6 := r2.frozen 6
          have y7 := r2.frozen 7
          have y8 := r2.frozen 8
          have t0 := r3.cell 0
          have t1 := r3.cell 1
          have t2 := r3.cell 2
          have t3 := r3.cell 3
          have t4 := r3.cell 4
          have t5 := r3.cell 5
          have t6 := r3.cell 6
          have t7 := r3.cell 7
          have t8 := r3.cell 8
          have t9 := r3.cell 9
          have t10 := r3.cell 10
          simp only [repCs, ReplyM.zero, List.getElem?_cons_zero, List.getElem?_cons_succ] at t0 t1 t2 t3 t4 t5 t6 t7 t8 t9 t10
          have u0 := r3.frozen 0
          have u1 := r3.frozen 1
          have u2 := r3.frozen 2
          have u3 := r3.frozen 3
          have u4 := r3.frozen 4
          have u5 := r3.frozen 5
          have u6 := r3.frozen 6
          have u7 := r3.frozen 7
          have u8 := r3.frozen 8
          have u9 := r3.frozen 9
          have u10 := r3.frozen 10
          have rr0 := r4.cell 0
          have rr1 := r4.cell 1
          have rr2 := r4.cell 2
          have rr3 := r4.cell 3
          have rr4 := r4.cell 4
          have rr5 := r4.cell 5
          have rr6 := r4.cell 6
          have rr7 := r4.cell 7
          have rr8 := r4.cell 8
          have rr9 := r4.cell 9
          have rr10 := r4.cell 10
          simp only [repCs, List.getElem?_cons_zero, List.getElem?_cons_succ] at rr0 rr1 rr2 rr3 rr4 rr5 rr6 rr7 rr8 rr9 rr10
          have z2 := r2.lt
          have z3_ := r3.lt
          clear r2 r3 r4 hsR
          go_wp2
          have q2 := R2.out.sets (partCs (.slice Aq Q.cells.length cq) (.slice Bq Q.recs.length dq) (.slice Cq Q.done.length eq_) Q) 0
          have s2 := Same.sets (S := fun q => q ≠ w.heap.size + 1 + 1) (g := w.heap.size + 1 + 1) (fun h => h rfl) (partCs (.slice Aq Q.cells.length cq) (.slice Bq Q.recs.length dq) (.slice Cq Q.done.length eq_) Q) 0 (Same.refl _ wR)
          have s3 := Same.sets (S := fun q => q ≠ w.heap.size + 1 + 1 + 1) (g := w.heap.size + 1 + 1 + 1) (fun h => h rfl) (repCs (.slice Ap R.pairs.length cp) R) 0 (Same.refl _ (setsW wR (w.heap.size + 1 + 1) 0 (partCs (.slice Aq Q.cells.length cq) (.slice Bq Q.recs.length dq) (.slice Cq Q.done.length eq_) Q)))
          have q3 := (R3.out.keep s2 (by omega)).sets (repCs (.slice Ap R.pairs.length cp) R) 0
          rw [HF.out]
          exact bodyPost_ret (apply_results (show Row _ _ _ (partCs (.slice Aq Q.cells.length cq) (.slice Bq Q.recs.length dq) (.slice Cq Q.done.length eq_) Q) from q2.keep s3 (by omega)) (show Row _ _ _ (repCs (.slice Ap R.pairs.length cp) R) from q3) rfl rfl) rfl ⟨_, _, _, _, rfl, (Ho9.out.keepG R2.out s2).keepRep (R3.out.keep s2 (by omega)) s3, OwnR.keepG (OwnR.keepG HpR.out R2.out (by decide) s2) (R3.out.keep s2 (by omega)) (by decide) s3, Same.sets' (by omega) (repCs (.slice Ap R.pairs.length cp) R) 0 (Same.sets' (by omega) (partCs (.slice Aq Q.cells.length cq) (.slice Bq Q.recs.length dq) (.slice Cq Q.done.length eq_) Q) 0 HSR.out)⟩
    · have k9 : (R.err == 0) = false := by simp [hz]
      have HF := Lib.hid (show applyF p c = (p, R) by
        unfold applyF
        rw [HR.out]
        exact if_neg hz)
      clear hz
      go_wp2
      refine wp_region_tail_d (L := [.eq (partV (.slice A0 p.cells.length c0_) (.slice A1 p.recs.length c1_) (.slice A2 p.done.length c2_) p), .of ⟨fun v w => ∃ vc vr vd, v = partV vc vr vd p ∧ OwnPart w w5.heap.size vc vr vd p, fun _ _ _ ⟨vc, vr, vd, h1, h2⟩ k => ⟨vc, vr, vd, h1, h2.keepAll k⟩⟩, .eq (repV (.slice Ap R.pairs.length cp) R)]) 3 2 (by omega) (by kernel_rfl) (by kernel_rfl) rfl rfl rfl rfl rfl rfl ?_ ?_ ?_
      · refine ⟨?_, ?_, ?_, trivial⟩
        · intro ac wc hs hd hz hf hw K hK
          have e0 : ac.eval (.tmp 2) = (.pointer (some ⟨w.heap.size, 0, none⟩)) := hf 2 rfl
          have m0 : wc.cell? ⟨w.heap.size, 0, none⟩ = some (.int .i64 p.epoch) := hs.cell (p := ⟨w.heap.size, 0, none⟩) trivial p0
          have m1 : wc.cell? ⟨w.heap.size, 1, none⟩ = some (.int .i64 p.holder) := hs.cell (p := ⟨w.heap.size, 1, none⟩) trivial p1
          have m2 : wc.cell? ⟨w.heap.size, 2, none⟩ = some (.int .i64 p.floor.wall) := hs.cell (p := ⟨w.heap.size, 2, none⟩) trivial p2
          have m3 : wc.cell? ⟨w.heap.size, 3, none⟩ = some (.int .i64 p.floor.tie) := hs.cell (p := ⟨w.heap.size, 3, none⟩) trivial p3
          have m4 : wc.cell? ⟨w.heap.size, 4, none⟩ = some (.int .i64 p.closed) := hs.cell (p := ⟨w.heap.size, 4, none⟩) trivial p4
          have m5 : wc.cell? ⟨w.heap.size, 5, none⟩ = some (.int .i64 p.low) := hs.cell (p := ⟨w.heap.size, 5, none⟩) trivial p5
          have m6 : wc.cell? ⟨w.heap.size, 6, none⟩ = some (.slice A0 p.cells.length c0_) := hs.cell (p := ⟨w.heap.size, 6, none⟩) trivial p6
          have m7 : wc.cell? ⟨w.heap.size, 7, none⟩ = some (.slice A1 p.recs.length c1_) := hs.cell (p := ⟨w.heap.size, 7, none⟩) trivial p7
          have m8 : wc.cell? ⟨w.heap.size, 8, none⟩ = some (.slice A2 p.done.length c2_) := hs.cell (p := ⟨w.heap.size, 8, none⟩) trivial p8
          clear hd hz hf hw
          simp only [Region.wanted, if_true, Oper.wp, execOp, resolve, List.map_toArray, List.map_cons, List.map_nil, Option.map_some, Option.map_none, e0]
          go_simp
          exact hK _ _ rfl (Same.refl _ _)
        · intro ac wc hs hd hz hf hw K hK
          have e0 : ac.eval (.tmp 34) = (partV (.slice A0 p.cells.length c0_) (.slice A1 p.recs.length c1_) (.slice A2 p.done.length c2_) p) := hw 0 rfl
          clear hd hz hf hw
          simp only [Region.wanted, if_true, Oper.wp, execOp, resolve, List.map_toArray, List.map_cons, List.map_nil, Option.map_some, Option.map_none, e0]
          go_simp
          refine (twin_any _ _ _ p S wc (Hv.out.keepAll (HS.out.trans hs)) Hn.out).mono ?_
          rintro e wd ⟨vc9, vr9, vd9, rfl, ho9, hs9⟩
          exact hK _ _ ⟨vc9, vr9, vd9, rfl, ho9.lower hs.size⟩ hs9
        · intro ac wc hs hd hz hf hw K hK
          have e0 : ac.eval (.tmp 7) = (.pointer (some ⟨w2.heap.size + 1, 0, none⟩)) := hf 7 rfl
          have m0 : wc.cell? ⟨w2.heap.size + 1, 0, none⟩ = some (.int .i64 R.err) := hs.cell (p := ⟨w2.heap.size + 1, 0, none⟩) trivial rr0
          have m1 : wc.cell? ⟨w2.heap.size + 1, 1, none⟩ = some (.slice Ap R.pairs.length cp) := hs.cell (p := ⟨w2.heap.size + 1, 1, none⟩) trivial rr1
          have m2 : wc.cell? ⟨w2.heap.size + 1, 2, none⟩ = some (.int .i64 R.by_.node) := hs.cell (p := ⟨w2.heap.size + 1, 2, none⟩) trivial rr2
          have m3 : wc.cell? ⟨w2.heap.size + 1, 3, none⟩ = some (.int .i64 R.by_.life) := hs.cell (p := ⟨w2.heap.size + 1, 3, none⟩) trivial rr3
          have m4 : wc.cell? ⟨w2.heap.size + 1, 4, none⟩ = some (.int .i64 R.by_.seq) := hs.cell (p := ⟨w2.heap.size + 1, 4, none⟩) trivial rr4
          have m5 : wc.cell? ⟨w2.heap.size + 1, 5, none⟩ = some (.int .i64 R.by_.attempt) := hs.cell (p := ⟨w2.heap.size + 1, 5, none⟩) trivial rr5
          have m6 : wc.cell? ⟨w2.heap.size + 1, 6, none⟩ = some (.int .i64 R.home) := hs.cell (p := ⟨w2.heap.size + 1, 6, none⟩) trivial rr6
          have m7 : wc.cell? ⟨w2.heap.size + 1, 7, none⟩ = some (.int .i64 R.at_.wall) := hs.cell (p := ⟨w2.heap.size + 1, 7, none⟩) trivial rr7
          have m8 : wc.cell? ⟨w2.heap.size + 1, 8, none⟩ = some (.int .i64 R.at_.tie) := hs.cell (p := ⟨w2.heap.size + 1, 8, none⟩) trivial rr8
          have m9 : wc.cell? ⟨w2.heap.size + 1, 9, none⟩ = some (.int .i64 R.wall) := hs.cell (p := ⟨w2.heap.size + 1, 9, none⟩) trivial rr9
          have m10 : wc.cell? ⟨w2.heap.size + 1, 10, none⟩ = some (.bool R.yes) := hs.cell (p := ⟨w2.heap.size + 1, 10, none⟩) trivial rr10
          clear hd hz hf hw
          simp only [Region.wanted, if_true, Oper.wp, execOp, resolve, List.map_toArray, List.map_cons, List.map_nil, Option.map_some, Option.map_none, e0]
          go_simp
          exact hK _ _ rfl (Same.refl _ _)
      · intro vs wR hvl hvp hsR
        rcases vs with _ | ⟨z0, _ | ⟨z1, _ | ⟨z2, _ | ⟨zz, zr⟩⟩⟩⟩
        rotate_right 1
        · simp at hvl
        · simp at hvl
        · simp at hvl
        · simp at hvl
        · obtain rfl : z0 = (partV (.slice A0 p.cells.length c0_) (.slice A1 p.recs.length c1_) (.slice A2 p.done.length c2_) p) := hvp 0 (by omega)
          have hx35 : (⟨fun v w => ∃ vc vr vd, v = partV vc vr vd p ∧ OwnPart w w5.heap.size vc vr vd p, fun _ _ _ ⟨vc, vr, vd, h1, h2⟩ k => ⟨vc, vr, vd, h1, h2.keepAll k⟩⟩ : SP).p z1 wR := hvp 1 (by omega)
          obtain rfl : z2 = (repV (.slice Ap R.pairs.length cp) R) := hvp 2 (by omega)
          clear hvl hvp
          simp only [putAll, Act.put, List.setIfInBounds_toArray, List.set_cons_succ, List.set_cons_zero, List.take_succ_cons, List.take_zero, List.drop_succ_cons, List.drop_zero, List.eraseIdx_cons_succ, List.eraseIdx_cons_zero]
          obtain ⟨vc9, vr9, vd9, rfl, ho9⟩ := hx35
          obtain ⟨A9, c9, rfl, -, -⟩ := ho9.cells.form
          obtain ⟨B9, d9, rfl, -, -⟩ := OwnR.form ho9.recs
          obtain ⟨C9, e9, rfl, -, -⟩ := OwnR.form ho9.done
          have Ho9 := Lib.hid (ho9.lower (B' := w.heap.size) (by have := HS.out.size; omega))
          clear ho9
          have HSR := Lib.hid (HS.out.trans hsR)
          have HpR := Lib.hid ((HpR.out.keepAll hsR).lower (B' := w.heap.size) (by omega))
          have R2 := Lib.hid (R2.out.keep hsR trivial)
          have R3 := Lib.hid (R3.out.keep hsR trivial)
          have G1 := Lib.hid (G1.out.keep hsR trivial)
          have r2 := R2.out
          have r3 := R3.out
          have r4 := G1.out
          clear rr0 rr1 rr2 rr3 rr4 rr5 rr6 rr7 rr8 rr9 rr10 p0 p1 p2 p3 p4 p5 p6 p7 p8
          have x0 := r2.cell 0
          have x1 := r2.cell 1
          have x2 := r2.cell 2
          have x3 := r2.cell 3
          have x4 := r2.cell 4
          have x5 := r2.cell 5
          have x6 := r2.cell 6
          have x7 := r2.cell 7
          have x8 := r2.cell 8
          simp only [zeroPart, List.getElem?_cons_zero, List.getElem?_cons_succ] at x0 x1 x2 x3 x4 x5 x6 x7 x8
          have y0 := r2.frozen 0
          have y1 := r2.frozen 1
          have y2 := r2.frozen 2
          have y3 := r2.frozen 3
          have y4 := r2.frozen 4
          have y5 := r2.frozen 5
          have y6 := r2.frozen 6
          have y7 := r2.frozen 7
          have y8 := r2.frozen 8
          have t0 := r3.cell 0
          have t1 := r3.cell 1
          have t2 := r3.cell 2
          have t3 := r3.cell 3
          have t4 := r3.cell 4
          have t5 := r3.cell 5
          have t6 := r3.cell 6
          have t7 := r3.cell 7
          have t8 := r3.cell 8
          have t9 := r3.cell 9
          have t10 := r3.cell 10
          simp only [repCs, ReplyM.zero, List.getElem?_cons_zero, List.getElem?_cons_succ] at t0 t1 t2 t3 t4 t5 t6 t7 t8 t9 t10
          have u0 := r3.frozen 0
          have u1 := r3.frozen 1
          have u2 := r3.frozen 2
          have u3 := r3.frozen 3
          have u4 := r3.frozen 4
          have u5 := r3.frozen 5
          have u6 := r3.frozen 6
          have u7 := r3.frozen 7
          have u8 := r3.frozen 8
          have u9 := r3.frozen 9
          have u10 := r3.frozen 10
          have rr0 := r4.cell 0
          have rr1 := r4.cell 1
          have rr2 := r4.cell 2
          have rr3 := r4.cell 3
          have rr4 := r4.cell 4
          have rr5 := r4.cell 5
          have rr6 := r4.cell 6
          have rr7 := r4.cell 7
          have rr8 := r4.cell 8
          have rr9 := r4.cell 9
          have rr10 := r4.cell 10
          simp only [repCs, List.getElem?_cons_zero, List.getElem?_cons_succ] at rr0 rr1 rr2 rr3 rr4 rr5 rr6 rr7 rr8 rr9 rr10
          have z2 := r2.lt
          have z3_ := r3.lt
          clear r2 r3 r4 hsR
          go_wp2
          have q2 := R2.out.sets (partCs (.slice A9 p.cells.length c9) (.slice B9 p.recs.length d9) (.slice C9 p.done.length e9) p) 0
          have s2 := Same.sets (S := fun q => q ≠ w.heap.size + 1 + 1) (g := w.heap.size + 1 + 1) (fun h => h rfl) (partCs (.slice A9 p.cells.length c9) (.slice B9 p.recs.length d9) (.slice C9 p.done.length e9) p) 0 (Same.refl _ wR)
          have s3 := Same.sets (S := fun q => q ≠ w.heap.size + 1 + 1 + 1) (g := w.heap.size + 1 + 1 + 1) (fun h => h rfl) (repCs (.slice Ap R.pairs.length cp) R) 0 (Same.refl _ (setsW wR (w.heap.size + 1 + 1) 0 (partCs (.slice A9 p.cells.length c9) (.slice B9 p.recs.length d9) (.slice C9 p.done.length e9) p)))
          have q3 := (R3.out.keep s2 (by omega)).sets (repCs (.slice Ap R.pairs.length cp) R) 0
          rw [HF.out]
          exact bodyPost_ret (apply_results (show Row _ _ _ (partCs (.slice A9 p.cells.length c9) (.slice B9 p.recs.length d9) (.slice C9 p.done.length e9) p) from q2.keep s3 (by omega)) (show Row _ _ _ (repCs (.slice Ap R.pairs.length cp) R) from q3) rfl rfl) rfl ⟨_, _, _, _, rfl, (Ho9.out.keepG R2.out s2).keepRep (R3.out.keep s2 (by omega)) s3, OwnR.keepG (OwnR.keepG HpR.out R2.out (by decide) s2) (R3.out.keep s2 (by omega)) (by decide) s3, Same.sets' (by omega) (repCs (.slice Ap R.pairs.length cp) R) 0 (Same.sets' (by omega) (partCs (.slice A9 p.cells.length c9) (.slice B9 p.recs.length d9) (.slice C9 p.done.length e9) p) 0 HSR.out)⟩
      · intro vs wR hvl hvp hsR
        rcases vs with _ | ⟨z0, _ | ⟨z1, _ | ⟨zz, zr⟩⟩⟩
        rotate_right 1
        · simp at hvl
        · simp at hvl
        · simp at hvl
        · obtain rfl : z0 = (partV (.slice A0 p.cells.length c0_) (.slice A1 p.recs.length c1_) (.slice A2 p.done.length c2_) p) := hvp 0 (by omega)
          have hx35 : (⟨fun v w => ∃ vc vr vd, v = partV vc vr vd p ∧ OwnPart w w5.heap.size vc vr vd p, fun _ _ _ ⟨vc, vr, vd, h1, h2⟩ k => ⟨vc, vr, vd, h1, h2.keepAll k⟩⟩ : SP).p z1 wR := hvp 1 (by omega)
          clear hvl hvp
          simp only [putAll, Act.put, List.setIfInBounds_toArray, List.set_cons_succ, List.set_cons_zero, List.take_succ_cons, List.take_zero, List.drop_succ_cons, List.drop_zero, List.eraseIdx_cons_succ, List.eraseIdx_cons_zero]
          obtain ⟨vc9, vr9, vd9, rfl, ho9⟩ := hx35
          obtain ⟨A9, c9, rfl, -, -⟩ := ho9.cells.form
          obtain ⟨B9, d9, rfl, -, -⟩ := OwnR.form ho9.recs
          obtain ⟨C9, e9, rfl, -, -⟩ := OwnR.form ho9.done
          have Ho9 := Lib.hid (ho9.lower (B' := w.heap.size) (by have := HS.out.size; omega))
          clear ho9
          have HSR := Lib.hid (HS.out.trans hsR)
          have HpR := Lib.hid ((HpR.out.keepAll hsR).lower (B' := w.heap.size) (by omega))
          have R2 := Lib.hid (R2.out.keep hsR trivial)
          have R3 := Lib.hid (R3.out.keep hsR trivial)
          have G1 := Lib.hid (G1.out.keep hsR trivial)
          have r2 := R2.out
          have r3 := R3.out
          have r4 := G1.out
          clear rr0 rr1 rr2 rr3 rr4 rr5 rr6 rr7 rr8 rr9 rr10 p0 p1 p2 p3 p4 p5 p6 p7 p8
          have x0 := r2.cell 0
          have x1 := r2.cell 1
          have x2 := r2.cell 2
          have x3 := r2.cell 3
          have x4 := r2.cell 4
          have x5 := r2.cell 5
          have x6 := r2.cell 6
          have x7 := r2.cell 7
          have x8 := r2.cell 8
          simp only [zeroPart, List.getElem?_cons_zero, List.getElem?_cons_succ] at x0 x1 x2 x3 x4 x5 x6 x7 x8
          have y0 := r2.frozen 0
          have y1 := r2.frozen 1
          have y2 := r2.frozen 2
          have y3 := r2.frozen 3
          have y4 := r2.frozen 4
          have y5 := r2.frozen 5
          have y6 := r2.frozen 6
          have y7 := r2.frozen 7
          have y8 := r2.frozen 8
          have t0 := r3.cell 0
          have t1 := r3.cell 1
          have t2 := r3.cell 2
          have t3 := r3.cell 3
          have t4 := r3.cell 4
          have t5 := r3.cell 5
          have t6 := r3.cell 6
          have t7 := r3.cell 7
          have t8 := r3.cell 8
          have t9 := r3.cell 9
          have t10 := r3.cell 10
          simp only [repCs, ReplyM.zero, List.getElem?_cons_zero, List.getElem?_cons_succ] at t0 t1 t2 t3 t4 t5 t6 t7 t8 t9 t10
          have u0 := r3.frozen 0
          have u1 := r3.frozen 1
          have u2 := r3.frozen 2
          have u3 := r3.frozen 3
          have u4 := r3.frozen 4
          have u5 := r3.frozen 5
          have u6 := r3.frozen 6
          have u7 := r3.frozen 7
          have u8 := r3.frozen 8
          have u9 := r3.frozen 9
          have u10 := r3.frozen 10
          have rr0 := r4.cell 0
          have rr1 := r4.cell 1
          have rr2 := r4.cell 2
          have rr3 := r4.cell 3
          have rr4 := r4.cell 4
          have rr5 := r4.cell 5
          have rr6 := r4.cell 6
          have rr7 := r4.cell 7
          have rr8 := r4.cell 8
          have rr9 := r4.cell 9
          have rr10 := r4.cell 10
          simp only [repCs, List.getElem?_cons_zero, List.getElem?_cons_succ] at rr0 rr1 rr2 rr3 rr4 rr5 rr6 rr7 rr8 rr9 rr10
          have z2 := r2.lt
          have z3_ := r3.lt
          clear r2 r3 r4 hsR
          go_wp2
          have q2 := R2.out.sets (partCs (.slice A9 p.cells.length c9) (.slice B9 p.recs.length d9) (.slice C9 p.done.length e9) p) 0
          have s2 := Same.sets (S := fun q => q ≠ w.heap.size + 1 + 1) (g := w.heap.size + 1 + 1) (fun h => h rfl) (partCs (.slice A9 p.cells.length c9) (.slice B9 p.recs.length d9) (.slice C9 p.done.length e9) p) 0 (Same.refl _ wR)
          have s3 := Same.sets (S := fun q => q ≠ w.heap.size + 1 + 1 + 1) (g := w.heap.size + 1 + 1 + 1) (fun h => h rfl) (repCs (.slice Ap R.pairs.length cp) R) 0 (Same.refl _ (setsW wR (w.heap.size + 1 + 1) 0 (partCs (.slice A9 p.cells.length c9) (.slice B9 p.recs.length d9) (.slice C9 p.done.length e9) p)))
          have q3 := (R3.out.keep s2 (by omega)).sets (repCs (.slice Ap R.pairs.length cp) R) 0
          rw [HF.out]
          exact bodyPost_ret (apply_results (show Row _ _ _ (partCs (.slice A9 p.cells.length c9) (.slice B9 p.recs.length d9) (.slice C9 p.done.length e9) p) from q2.keep s3 (by omega)) (show Row _ _ _ (repCs (.slice Ap R.pairs.length cp) R) from q3) rfl rfl) rfl ⟨_, _, _, _, rfl, (Ho9.out.keepG R2.out s2).keepRep (R3.out.keep s2 (by omega)) s3, OwnR.keepG (OwnR.keepG HpR.out R2.out (by decide) s2) (R3.out.keep s2 (by omega)) (by decide) s3, Same.sets' (by omega) (repCs (.slice Ap R.pairs.length cp) R) 0 (Same.sets' (by omega) (partCs (.slice A9 p.cells.length c9) (.slice B9 p.recs.length d9) (.slice C9 p.done.length e9) p) 0 HSR.out)⟩
end Go.Proofs.Ytoldelocfmpccaa
