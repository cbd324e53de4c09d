/-
  Words, plain models, laws and walks that the claims of this layer share (joined by shake.py). No condition.
-/
import Derived.Test.YtoldelocfmpccaaS1
import Derived.Test.YtoldelocfmpccaaS2
import Derived.Test.YtoldelocfmpccaaS3
import Derived.Test.YtoldelocfmpccaaS4
import Derived.Test.YtoldelocfmpccaaS5
import Derived.Test.YtoldelocfmpccaaS6
set_option linter.unusedSimpArgs false
set_option linter.unusedVariables false
namespace Go.Proofs.Ytoldelocfmpccaa
open Go.RowKit
structure CmdM where
  kind : Int
  epoch : Int
  node : Int
  home : Int
  by_ : TryT
  at_ : St
  wall : Int
  yes : Bool
  spans : List (List UInt8 × List UInt8)
  writes : List Wr
structure ReplyM where
  err : Int
  pairs : List (List UInt8 × List UInt8)
  by_ : TryT
  home : Int
  at_ : St
  wall : Int
  yes : Bool
def ReplyM.zero : ReplyM := ⟨0, [], ⟨0, 0, 0, 0⟩, 0, ⟨0, 0⟩, 0, false⟩
def repErr (e : Int) : ReplyM := { ReplyM.zero with err := e }
def repCs (vp : Value) (r : ReplyM) : List Value := [.int .i64 r.err, vp, .int .i64 r.by_.node, .int .i64 r.by_.life, .int .i64 r.by_.seq, .int .i64 r.by_.attempt, .int .i64 r.home, .int .i64 r.at_.wall, .int .i64 r.at_.tie, .int .i64 r.wall, .bool r.yes]
abbrev repV (vp : Value) (r : ReplyM) : Value := .agg #[.int .i64 r.err, vp, .int .i64 r.by_.node, .int .i64 r.by_.life, .int .i64 r.by_.seq, .int .i64 r.by_.attempt, .int .i64 r.home, .int .i64 r.at_.wall, .int .i64 r.at_.tie, .int .i64 r.wall, .bool r.yes]
def cmdCs (vs vw : Value) (c : CmdM) : List Value := [.int .i64 c.kind, .int .i64 c.epoch, .int .i64 c.node, .int .i64 c.home, .int .i64 c.by_.node, .int .i64 c.by_.life, .int .i64 c.by_.seq, .int .i64 c.by_.attempt, .int .i64 c.at_.wall, .int .i64 c.at_.tie, .int .i64 c.wall, .bool c.yes, vs, vw]
abbrev cmdV (vs vw : Value) (c : CmdM) : Value := .agg #[.int .i64 c.kind, .int .i64 c.epoch, .int .i64 c.node, .int .i64 c.home, .int .i64 c.by_.node, .int .i64 c.by_.life, .int .i64 c.by_.seq, .int .i64 c.by_.attempt, .int .i64 c.at_.wall, .int .i64 c.at_.tie, .int .i64 c.wall, .bool c.yes, vs, vw]
abbrev nilV : Value := .slice none 0 0
/-- Whose lock is in the way. -/
def lockedR (l : Lck) : ReplyM := { ReplyM.zero with err := 20, by_ := l.by_, home := l.home, at_ := l.at_ }
theorem locked_results {W : World} {k : Nat} {vp : Value} {r : ReplyM} (R : Row W k 85 (repCs vp r)) {tmps : Array Value} (h2 : tmps.getD 2 undef = .pointer (some ⟨k, 0, none⟩)) :
    (results Try.f112 tmps).run Try.prog W = .ok (repV vp r) W := by
  have d0 := R.cell 0
  have d1 := R.cell 1
  have d2 := R.cell 2
  have d3 := R.cell 3
  have d4 := R.cell 4
  have d5 := R.cell 5
  have d6 := R.cell 6
  have d7 := R.cell 7
  have d8 := R.cell 8
  have d9 := R.cell 9
  have d10 := R.cell 10
  simp only [repCs, List.getElem?_cons_zero, List.getElem?_cons_succ] at d0 d1 d2 d3 d4 d5 d6 d7 d8 d9 d10
  simp at h2
  simp [results, Try.results112, h2, go_sem, d0, d1, d2, d3, d4, d5, d6, d7, d8, d9, d10]
theorem lease_results {W : World} {k : Nat} {vp : Value} {r : ReplyM} (R : Row W k 85 (repCs vp r)) {tmps : Array Value} (h2 : tmps.getD 4 undef = .pointer (some ⟨k, 0, none⟩)) :
    (results Try.f77 tmps).run Try.prog W = .ok (repV vp r) W := by
  have d0 := R.cell 0
  have d1 := R.cell 1
  have d2 := R.cell 2
  have d3 := R.cell 3
  have d4 := R.cell 4
  have d5 := R.cell 5
  have d6 := R.cell 6
  have d7 := R.cell 7
  have d8 := R.cell 8
  have d9 := R.cell 9
  have d10 := R.cell 10
  simp only [repCs, List.getElem?_cons_zero, List.getElem?_cons_succ] at d0 d1 d2 d3 d4 d5 d6 d7 d8 d9 d10
  simp at h2
  simp [results, Try.results77, h2, go_sem, d0, d1, d2, d3, d4, d5, d6, d7, d8, d9, d10]
def RepP (r : ReplyM) (w : World) (e : Ending) (w' : World) : Prop := e = .returned (repV nilV r) ∧ Same (fun _ => True) w w'
set_option maxHeartbeats 1000000 in
theorem locked_any (l : Lck) (w : World) : Calls Try.prog 112 #[lckV l] w (RepP (lockedR l) w) := by
  have r1 := Row.new (w.alloc (.cells (lckCs l).toArray 30)) 85 (repCs nilV ReplyM.zero)
  have hS0 := ((Same.refl (fun _ => True) w).alloc (.cells (lckCs l).toArray 30)).alloc (.cells (repCs nilV ReplyM.zero).toArray 85)
  rw [World.size_alloc] at r1
  go_enter Try.func112, Try.ntmps112
  go_wp2
  exact bodyPost_ret (locked_results (r := lockedR l) (vp := nilV) (show Row _ _ _ (repCs nilV (lockedR l)) from Row.new (w.alloc (.cells (lckCs l).toArray 30)) 85 (repCs nilV (lockedR l))) (by rw [World.size_alloc]; rfl)) rfl ⟨rfl, ((Same.refl (fun _ => True) w).alloc (.cells (lckCs l).toArray 30)).alloc _⟩
/-- The later stamp. -/
def maxS (a b : St) : St := if lessB a b then b else a
theorem maxs_results {W : World} {k : Nat} {s : St} (R : Row W k 28 (stCs s)) {tmps : Array Value} (h2 : tmps.getD 4 undef = .pointer (some ⟨k, 0, none⟩)) :
    (results Try.f113 tmps).run Try.prog W = .ok (stV s) W := by
  have d0 := R.cell 0
  have d1 := R.cell 1
  simp only [stCs, List.getElem?_cons_zero, List.getElem?_cons_succ] at d0 d1
  simp at h2
  simp [results, Try.results113, h2, go_sem, d0, d1]
set_option maxHeartbeats 1000000 in
theorem maxs_any (a b : St) (w : World) : Calls Try.prog 113 #[stV a, stV b] w fun e w' => e = .returned (stV (maxS a b)) ∧ Same (fun _ => True) w w' := by
  have r0 := ((Row.new w 28 (stCs a)).keep ((Same.refl (fun _ => True) _).alloc (.cells (stCs b).toArray 28)) trivial).keep ((Same.refl (fun _ => True) _).alloc (.cells (stCs ⟨0, 0⟩).toArray 28)) trivial
  have r1 := (Row.new (w.alloc (.cells (stCs a).toArray 28)) 28 (stCs b)).keep ((Same.refl (fun _ => True) _).alloc (.cells (stCs ⟨0, 0⟩).toArray 28)) trivial
  have r2 := Row.new ((w.alloc (.cells (stCs a).toArray 28)).alloc (.cells (stCs b).toArray 28)) 28 (stCs ⟨0, 0⟩)
  have hS0 := (((Same.refl (fun _ => True) w).alloc (.cells (stCs a).toArray 28)).alloc (.cells (stCs b).toArray 28)).alloc (.cells (stCs ⟨0, 0⟩).toArray 28)
  rw [World.size_alloc] at r1
  rw [World.size_alloc, World.size_alloc] at r2
  go_enter Try.func113, Try.ntmps113
  go_wp2_with (go_at_call 71; refine stopAt ?_)
  unfold Hid
  simp only [stCs] at r0 r1 r2 hS0
  revert r0 r1 r2 hS0
  generalize ((w.alloc _).alloc _).alloc _ = w1
  intro r0 r1 r2 hS0
  refine (stless_any a b w1).mono ?_
  rintro e w2 ⟨rfl, hS⟩
  have HS := Lib.hid (hS0.trans hS)
  have r0 := r0.keep hS trivial
  have r1 := r1.keep hS trivial
  have r2 := r2.keep hS trivial
  have R2 := Lib.hid r2
  have a0 := r0.cell 0
  have a1 := r0.cell 1
  simp only [List.getElem?_cons_zero, List.getElem?_cons_succ] at a0 a1
  have b0 := r1.cell 0
  have b1 := r1.cell 1
  simp only [List.getElem?_cons_zero, List.getElem?_cons_succ] at b0 b1
  have c0 := r2.cell 0
  have c1 := r2.cell 1
  simp only [List.getElem?_cons_zero, List.getElem?_cons_succ] at c0 c1
  have f0 := r2.frozen 0
  have f1 := r2.frozen 1
  have z2 := r2.lt
  clear r0 r1 r2 hS hS0
  cases hl : lessB a b
  · have HM := Lib.hid (show maxS a b = a by unfold maxS; rw [hl]; rfl)
    clear hl
    go_wp2
    exact bodyPost_ret (maxs_results (s := a) (show Row _ _ _ (stCs a) from R2.out.sets (stCs a) 0) rfl) rfl ⟨by rw [HM.out], Same.sets' (by omega) (stCs a) 0 HS.out⟩
  · have HM := Lib.hid (show maxS a b = b by unfold maxS; rw [hl]; rfl)
    clear hl
    go_wp2
    exact bodyPost_ret (maxs_results (s := b) (show Row _ _ _ (stCs b) from R2.out.sets (stCs b) 0) rfl) rfl ⟨by rw [HM.out], Same.sets' (by omega) (stCs b) 0 HS.out⟩
/-- What a lease does. -/
def leaseOk (p : PartM) (c : CmdM) : Bool := decide (p.epoch < 1099511627776) && (decide (c.epoch = p.epoch + 1) && decide (c.epoch ≤ 1099511627776))
def leaseF (p : PartM) (c : CmdM) : PartM × ReplyM := if leaseOk p c then ({ p with epoch := c.epoch, holder := c.node }, ReplyM.zero) else (p, repErr 25)
/-- What a command leaves of a state that lies in block g, and answers. -/
def Sd (g : Nat) (vr vd : Value) : Nat → Prop := fun k => k ≠ g ∧ some k ≠ vr.ownBlock ∧ some k ≠ vd.ownBlock
theorem OwnPart.sd {w : World} {B g k : Nat} {vc vr vd : Value} {p : PartM} (h : OwnPart w B vc vr vd p) (hB : B ≤ g) (hk : k < B) : Sd g vr vd k :=
  ⟨by omega, fun e => by have := (h.recs.lt k e.symm).1; omega, fun e => by have := (h.done.lt k e.symm).1; omega⟩
theorem OwnPart.sdRow {w : World} {B g k : Nat} {e' : TypeId} {vc vr vd : Value} {p : PartM} {xs : List Value} (h : OwnPart w B vc vr vd p) (hr : Row w k e' xs) (he : 93 ≠ e') (hk : k ≠ g) : Sd g vr vd k := by
  have key : ∀ {v : Value} {l : List Out}, OwnO w B v l → some k ≠ v.ownBlock := fun {v l} ho hk => by
    rcases ownsRow_row ho with ⟨rfl, _, _⟩ | ⟨g', cap, cur, rfl, _, hr', _⟩
    · cases hk
    · injection (show some k = some g' from hk) with hk
      subst hk
      exact hr'.ne hr he rfl
  exact ⟨hk, key h.recs, key h.done⟩
def DoesP (B g : Nat) (vr0 vd0 : Value) (r : PartM × ReplyM) (w : World) (e : Ending) (w' : World) : Prop := ∃ vc vr vd vp, e = .returned (repV vp r.2) ∧ Row w' g 77 (partCs vc vr vd r.1) ∧ OwnPart w' B vc vr vd r.1 ∧ OwnP w' B vp r.2.pairs ∧ Same (Sd g vr0 vd0) w w'
set_option maxRecDepth 100000 in
set_option maxHeartbeats 2000000 in
theorem lease_any (g B : Nat) (vc vr vd vs vw : Value) (p : PartM) (c : CmdM) (w : World) (hr : Row w g 77 (partCs vc vr vd p)) (ho : OwnPart w B vc vr vd p) (hB : B ≤ g) (hBw : B ≤ w.heap.size) (he : -9223372036854775808 ≤ p.epoch ∧ p.epoch ≤ 9223372036854775807) :
    Calls Try.prog 77 #[.pointer (some ⟨g, 0, none⟩), cmdV vs vw c] w (DoesP B g vr vd (leaseF p c) w) := by
  have r0 := (Row.new w 81 (cmdCs vs vw c)).keep ((Same.refl (fun _ => True) _).alloc (.cells (repCs nilV ReplyM.zero).toArray 85)) trivial
  have r1 := Row.new (w.alloc (.cells (cmdCs vs vw c).toArray 81)) 85 (repCs nilV ReplyM.zero)
  have hS0 := ((Same.refl (fun _ => True) w).alloc (.cells (cmdCs vs vw c).toArray 81)).alloc (.cells (repCs nilV ReplyM.zero).toArray 85)
  rw [World.size_alloc] at r1
  have Ho := Lib.hid ho
  have Hr := Lib.hid hr
  have hgl := hr.lt
  clear ho hr
  have hp := Hr.out.keep hS0 trivial
  have z1 := r1.lt
  go_enter Try.func77, Try.ntmps77
  go_wp2
  simp only [partCs, cmdCs, repCs, ReplyM.zero] at r0 r1 hp hS0
  revert r0 r1 hS0 hp z1
  generalize (w.alloc _).alloc _ = w1
  intro r0 r1 hS0 hp z1
  have R0 := Lib.hid r0
  have R1 := Lib.hid r1
  have HP := Lib.hid hp
  have HS0 := Lib.hid hS0
  have p0 := hp.cell 0
  have p1 := hp.cell 1
  have p2 := hp.cell 2
  have p3 := hp.cell 3
  have p4 := hp.cell 4
  have p5 := hp.cell 5
  have p6 := hp.cell 6
  have p7 := hp.cell 7
  have p8 := hp.cell 8
  simp only [List.getElem?_cons_zero, List.getElem?_cons_succ] at p0 p1 p2 p3 p4 p5 p6 p7 p8
  have c0 := r0.cell 0
  have c1 := r0.cell 1
  have c2 := r0.cell 2
  have c3 := r0.cell 3
  have c4 := r0.cell 4
  have c5 := r0.cell 5
  have c6 := r0.cell 6
  have c7 := r0.cell 7
  have c8 := r0.cell 8
  have c9 := r0.cell 9
  have c10 := r0.cell 10
  have c11 := r0.cell 11
  have c12 := r0.cell 12
  have c13 := r0.cell 13
  simp only [List.getElem?_cons_zero, List.getElem?_cons_succ] at c0 c1 c2 c3 c4 c5 c6 c7 c8 c9 c10 c11 c12 c13
  have e0 := r1.cell 0
  have e1 := r1.cell 1
  have e2 := r1.cell 2
  have e3 := r1.cell 3
  have e4 := r1.cell 4
  have e5 := r1.cell 5
  have e6 := r1.cell 6
  have e7 := r1.cell 7
  have e8 := r1.cell 8
  have e9 := r1.cell 9
  have e10 := r1.cell 10
  simp only [List.getElem?_cons_zero, List.getElem?_cons_succ] at e0 e1 e2 e3 e4 e5 e6 e7 e8 e9 e10
  have f0 := r1.frozen 0
  have f1 := r1.frozen 1
  have f2 := r1.frozen 2
  have f3 := r1.frozen 3
  have f4 := r1.frozen 4
  have f5 := r1.frozen 5
  have f6 := r1.frozen 6
  have f7 := r1.frozen 7
  have f8 := r1.frozen 8
  have f9 := r1.frozen 9
  have f10 := r1.frozen 10
  have g0 := hp.frozen 0
  have g1 := hp.frozen 1
  have g2 := hp.frozen 2
  have g3 := hp.frozen 3
  have g4 := hp.frozen 4
  have g5 := hp.frozen 5
  have g6 := hp.frozen 6
  have g7 := hp.frozen 7
  have g8 := hp.frozen 8
  clear r0 r1 hp hS0
  have hwrap : p.epoch < 1099511627776 → IntKind.i64.wrap (p.epoch + 1) = p.epoch + 1 := fun h => by rw [IntKind.wrap_i64]; omega
  by_cases h1 : p.epoch < 1099511627776
  · have hwr := hwrap h1
    have d1 : decide ((1099511627776 : Int) ≤ p.epoch) = false := by simp; omega
    by_cases h2 : c.epoch = p.epoch + 1
    · have d2 : (c.epoch != p.epoch + 1) = false := by simp [h2]
      by_cases h3 : c.epoch ≤ 1099511627776
      · have d3 : decide ((1099511627776 : Int) < c.epoch) = false := by simp; omega
        have HL := Lib.hid (show leaseF p c = ({ p with epoch := c.epoch, holder := c.node }, ReplyM.zero) by
          have : leaseOk p c = true := by simp [leaseOk, h1, h2]; omega
          unfold leaseF; rw [if_pos this])
        clear hwrap h1 h2 h3
        go_quiet (fail)
        rename_i nq
        have HS0 := Lib.hid (HS0.out.drewN nq)
        have r0 := R0.out.keep ((Same.refl (fun _ => True) w1).drewN nq) trivial
        have r1 := R1.out.keep ((Same.refl (fun _ => True) w1).drewN nq) trivial
        have hp := HP.out.keep ((Same.refl (fun _ => True) w1).drewN nq) trivial
        clear p0 p1 p2 p3 p4 p5 p6 p7 p8 c0 c1 c2 c3 c4 c5 c6 c7 c8 c9 c10 c11 c12 c13 e0 f0 e1 f1 e2 f2 e3 f3 e4 f4 e5 f5 e6 f6 e7 f7 e8 f8 e9 f9 e10 f10 g0 g1 g2 g3 g4 g5 g6 g7 g8
        generalize w1.drewN nq = w2 at *
        have R0 := Lib.hid r0
        have R1 := Lib.hid r1
        have HP := Lib.hid hp
        have z2 := r1.lt
        have zp := hp.lt
        have p0 := hp.cell 0
        have p1 := hp.cell 1
        have p2 := hp.cell 2
        have p3 := hp.cell 3
        have p4 := hp.cell 4
        have p5 := hp.cell 5
        have p6 := hp.cell 6
        have p7 := hp.cell 7
        have p8 := hp.cell 8
        simp only [List.getElem?_cons_zero, List.getElem?_cons_succ] at p0 p1 p2 p3 p4 p5 p6 p7 p8
        have c0 := r0.cell 0
        have c1 := r0.cell 1
        have c2 := r0.cell 2
        have c3 := r0.cell 3
        have c4 := r0.cell 4
        have c5 := r0.cell 5
        have c6 := r0.cell 6
        have c7 := r0.cell 7
        have c8 := r0.cell 8
        have c9 := r0.cell 9
        have c10 := r0.cell 10
        have c11 := r0.cell 11
        have c12 := r0.cell 12
        have c13 := r0.cell 13
        simp only [List.getElem?_cons_zero, List.getElem?_cons_succ] at c0 c1 c2 c3 c4 c5 c6 c7 c8 c9 c10 c11 c12 c13
        have e0 := r1.cell 0
        have e1 := r1.cell 1
        have e2 := r1.cell 2
        have e3 := r1.cell 3
        have e4 := r1.cell 4
        have e5 := r1.cell 5
        have e6 := r1.cell 6
        have e7 := r1.cell 7
        have e8 := r1.cell 8
        have e9 := r1.cell 9
        have e10 := r1.cell 10
        simp only [List.getElem?_cons_zero, List.getElem?_cons_succ] at e0 e1 e2 e3 e4 e5 e6 e7 e8 e9 e10
        have f0 := r1.frozen 0
        have f1 := r1.frozen 1
        have f2 := r1.frozen 2
        have f3 := r1.frozen 3
        have f4 := r1.frozen 4
        have f5 := r1.frozen 5
        have f6 := r1.frozen 6
        have f7 := r1.frozen 7
        have f8 := r1.frozen 8
        have f9 := r1.frozen 9
        have f10 := r1.frozen 10
        have g0 := hp.frozen 0
        have g1 := hp.frozen 1
        have g2 := hp.frozen 2
        have g3 := hp.frozen 3
        have g4 := hp.frozen 4
        have g5 := hp.frozen 5
        have g6 := hp.frozen 6
        have g7 := hp.frozen 7
        have g8 := hp.frozen 8
        clear r0 r1 hp
        go_wp2
        go_region
        have hp3 := ((HP.out.set_ 0 (.int .i64 c.epoch)).set_ 1 (.int .i64 c.node)).keep ((Same.refl (fun _ => True) _).drew) trivial
        have hS3 : Same (fun q => q ≠ g) w2 ((w2.setCell ⟨g, 0, none⟩ (.int .i64 c.epoch)).setCell ⟨g, 1, none⟩ (.int .i64 c.node)).drew := (((Same.refl _ _).setCell (fun _ h => h rfl) _).setCell (fun _ h => h rfl) _).drew
        clear p0 p1 p2 p3 p4 p5 p6 p7 p8 c0 c1 c2 c3 c4 c5 c6 c7 c8 c9 c10 c11 c12 c13 e0 f0 e1 f1 e2 f2 e3 f3 e4 f4 e5 f5 e6 f6 e7 f7 e8 f8 e9 f9 e10 f10 g0 g1 g2 g3 g4 g5 g6 g7 g8
        revert hp3 hS3
        generalize ((w2.setCell _ _).setCell _ _).drew = w3
        intro hp3 hS3
        have r1 := R1.out.keep hS3 (by omega)
        have R1 := Lib.hid r1
        have HP3 := Lib.hid (show Row w3 g 77 (partCs vc vr vd { p with epoch := c.epoch, holder := c.node }) from hp3)
        have Ho3 := Lib.hid ((Ho.out.keepAll HS0.out).keepG HP.out hS3)
        have HS3 := Lib.hid ((HS0.out.mono (S' := Sd g vr vd) fun _ _ _ => trivial).trans' hS3 fun k _ hk => hk.1)
        have z3 := r1.lt
        have e0 := r1.cell 0
        have e1 := r1.cell 1
        have e2 := r1.cell 2
        have e3 := r1.cell 3
        have e4 := r1.cell 4
        have e5 := r1.cell 5
        have e6 := r1.cell 6
        have e7 := r1.cell 7
        have e8 := r1.cell 8
        have e9 := r1.cell 9
        have e10 := r1.cell 10
        simp only [List.getElem?_cons_zero, List.getElem?_cons_succ] at e0 e1 e2 e3 e4 e5 e6 e7 e8 e9 e10
        have f0 := r1.frozen 0
        have f1 := r1.frozen 1
        have f2 := r1.frozen 2
        have f3 := r1.frozen 3
        have f4 := r1.frozen 4
        have f5 := r1.frozen 5
        have f6 := r1.frozen 6
        have f7 := r1.frozen 7
        have f8 := r1.frozen 8
        have f9 := r1.frozen 9
        have f10 := r1.frozen 10
        clear r1 hp3
        go_wp2
        have hS4 := Same.sets' (S := Sd g vr vd) (w := w) (g := w.heap.size + 1) (by omega) (repCs nilV ReplyM.zero) 0 HS3.out
        have hq := Same.sets (S := fun q => q ≠ w.heap.size + 1) (g := w.heap.size + 1) (fun h => h rfl) (repCs nilV ReplyM.zero) 0 (Same.refl _ w3)
        rw [HL.out]
        exact bodyPost_ret (lease_results (r := ReplyM.zero) (vp := nilV) (show Row _ _ _ (repCs nilV ReplyM.zero) from R1.out.sets (repCs nilV ReplyM.zero) 0) rfl) rfl ⟨vc, vr, vd, nilV, rfl, HP3.out.keep hq (by omega), (Ho3.out.keepRep R1.out hq).upd, OwnR.nil _ _, hS4⟩
      · have d3 : decide ((1099511627776 : Int) < c.epoch) = true := by simp; omega
        have HL := Lib.hid (show leaseF p c = (p, repErr 25) by
          have : leaseOk p c = false := by simp [leaseOk, h1, h2]; omega
          unfold leaseF; rw [this]; rfl)
        clear hwrap h1 h2 h3
        go_quiet (fail)
        rename_i nq
        have HS0 := Lib.hid (HS0.out.drewN nq)
        have r0 := R0.out.keep ((Same.refl (fun _ => True) w1).drewN nq) trivial
        have r1 := R1.out.keep ((Same.refl (fun _ => True) w1).drewN nq) trivial
        have hp := HP.out.keep ((Same.refl (fun _ => True) w1).drewN nq) trivial
        clear p0 p1 p2 p3 p4 p5 p6 p7 p8 c0 c1 c2 c3 c4 c5 c6 c7 c8 c9 c10 c11 c12 c13 e0 f0 e1 f1 e2 f2 e3 f3 e4 f4 e5 f5 e6 f6 e7 f7 e8 f8 e9 f9 e10 f10 g0 g1 g2 g3 g4 g5 g6 g7 g8
        generalize w1.drewN nq = w2 at *
        have R0 := Lib.hid r0
        have R1 := Lib.hid r1
        have HP := Lib.hid hp
        have z2 := r1.lt
        have zp := hp.lt
        have p0 := hp.cell 0
        have p1 := hp.cell 1
        have p2 := hp.cell 2
        have p3 := hp.cell 3
        have p4 := hp.cell 4
        have p5 := hp.cell 5
        have p6 := hp.cell 6
        have p7 := hp.cell 7
        have p8 := hp.cell 8
        simp only [List.getElem?_cons_zero, List.getElem?_cons_succ] at p0 p1 p2 p3 p4 p5 p6 p7 p8
        have c0 := r0.cell 0
        have c1 := r0.cell 1
        have c2 := r0.cell 2
        have c3 := r0.cell 3
        have c4 := r0.cell 4
        have c5 := r0.cell 5
        have c6 := r0.cell 6
        have c7 := r0.cell 7
        have c8 := r0.cell 8
        have c9 := r0.cell 9
        have c10 := r0.cell 10
        have c11 := r0.cell 11
        have c12 := r0.cell 12
        have c13 := r0.cell 13
        simp only [List.getElem?_cons_zero, List.getElem?_cons_succ] at c0 c1 c2 c3 c4 c5 c6 c7 c8 c9 c10 c11 c12 c13
        have e0 := r1.cell 0
        have e1 := r1.cell 1
        have e2 := r1.cell 2
        have e3 := r1.cell 3
        have e4 := r1.cell 4
        have e5 := r1.cell 5
        have e6 := r1.cell 6
        have e7 := r1.cell 7
        have e8 := r1.cell 8
        have e9 := r1.cell 9
        have e10 := r1.cell 10
        simp only [List.getElem?_cons_zero, List.getElem?_cons_succ] at e0 e1 e2 e3 e4 e5 e6 e7 e8 e9 e10
        have f0 := r1.frozen 0
        have f1 := r1.frozen 1
        have f2 := r1.frozen 2
        have f3 := r1.frozen 3
        have f4 := r1.frozen 4
        have f5 := r1.frozen 5
        have f6 := r1.frozen 6
        have f7 := r1.frozen 7
        have f8 := r1.frozen 8
        have f9 := r1.frozen 9
        have f10 := r1.frozen 10
        have g0 := hp.frozen 0
        have g1 := hp.frozen 1
        have g2 := hp.frozen 2
        have g3 := hp.frozen 3
        have g4 := hp.frozen 4
        have g5 := hp.frozen 5
        have g6 := hp.frozen 6
        have g7 := hp.frozen 7
        have g8 := hp.frozen 8
        clear r0 r1 hp
        go_wp2
        have hS2 := Same.sets' (S := fun _ => True) (w := w) (g := w.heap.size + 1) (by omega) (repCs nilV (repErr 25)) 0 HS0.out
        have hq := Same.sets (S := fun q => q ≠ w.heap.size + 1) (g := w.heap.size + 1) (fun h => h rfl) (repCs nilV (repErr 25)) 0 (Same.refl _ w2)
        rw [HL.out]
        exact bodyPost_ret (lease_results (r := repErr 25) (vp := nilV) (show Row _ _ _ (repCs nilV (repErr 25)) from R1.out.sets (repCs nilV (repErr 25)) 0) rfl) rfl ⟨vc, vr, vd, nilV, rfl, HP.out.keep hq (by omega), Ho.out.keepAll hS2, OwnR.nil _ _, hS2.mono fun _ _ _ => trivial⟩
    · have d2 : (c.epoch != p.epoch + 1) = true := by simp [h2]
      have HL := Lib.hid (show leaseF p c = (p, repErr 25) by
        have : leaseOk p c = false := by simp [leaseOk, h1, h2]
        unfold leaseF; rw [this]; rfl)
      clear hwrap h1 h2
      go_quiet (fail)
      rename_i nq
      have HS0 := Lib.hid (HS0.out.drewN nq)
      have r0 := R0.out.keep ((Same.refl (fun _ => True) w1).drewN nq) trivial
      have r1 := R1.out.keep ((Same.refl (fun _ => True) w1).drewN nq) trivial
      have hp := HP.out.keep ((Same.refl (fun _ => True) w1).drewN nq) trivial
      clear p0 p1 p2 p3 p4 p5 p6 p7 p8 c0 c1 c2 c3 c4 c5 c6 c7 c8 c9 c10 c11 c12 c13 e0 f0 e1 f1 e2 f2 e3 f3 e4 f4 e5 f5 e6 f6 e7 f7 e8 f8 e9 f9 e10 f10 g0 g1 g2 g3 g4 g5 g6 g7 g8
      generalize w1.drewN nq = w2 at *
      have R0 := Lib.hid r0
      have R1 := Lib.hid r1
      have HP := Lib.hid hp
      have z2 := r1.lt
      have zp := hp.lt
      have p0 := hp.cell 0
      have p1 := hp.cell 1
      have p2 := hp.cell 2
      have p3 := hp.cell 3
      have p4 := hp.cell 4
      have p5 := hp.cell 5
      have p6 := hp.cell 6
      have p7 := hp.cell 7
      have p8 := hp.cell 8
      simp only [List.getElem?_cons_zero, List.getElem?_cons_succ] at p0 p1 p2 p3 p4 p5 p6 p7 p8
      have c0 := r0.cell 0
      have c1 := r0.cell 1
      have c2 := r0.cell 2
      have c3 := r0.cell 3
      have c4 := r0.cell 4
      have c5 := r0.cell 5
      have c6 := r0.cell 6
      have c7 := r0.cell 7
      have c8 := r0.cell 8
      have c9 := r0.cell 9
      have c10 := r0.cell 10
      have c11 := r0.cell 11
      have c12 := r0.cell 12
      have c13 := r0.cell 13
      simp only [List.getElem?_cons_zero, List.getElem?_cons_succ] at c0 c1 c2 c3 c4 c5 c6 c7 c8 c9 c10 c11 c12 c13
      have e0 := r1.cell 0
      have e1 := r1.cell 1
      have e2 := r1.cell 2
      have e3 := r1.cell 3
      have e4 := r1.cell 4
      have e5 := r1.cell 5
      have e6 := r1.cell 6
      have e7 := r1.cell 7
      have e8 := r1.cell 8
      have e9 := r1.cell 9
      have e10 := r1.cell 10
      simp only [List.getElem?_cons_zero, List.getElem?_cons_succ] at e0 e1 e2 e3 e4 e5 e6 e7 e8 e9 e10
      have f0 := r1.frozen 0
      have f1 := r1.frozen 1
      have f2 := r1.frozen 2
      have f3 := r1.frozen 3
      have f4 := r1.frozen 4
      have f5 := r1.frozen 5
      have f6 := r1.frozen 6
      have f7 := r1.frozen 7
      have f8 := r1.frozen 8
      have f9 := r1.frozen 9
      have f10 := r1.frozen 10
      have g0 := hp.frozen 0
      have g1 := hp.frozen 1
      have g2 := hp.frozen 2
      have g3 := hp.frozen 3
      have g4 := hp.frozen 4
      have g5 := hp.frozen 5
      have g6 := hp.frozen 6
      have g7 := hp.frozen 7
      have g8 := hp.frozen 8
      clear r0 r1 hp
      go_wp2
      have hS2 := Same.sets' (S := fun _ => True) (w := w) (g := w.heap.size + 1) (by omega) (repCs nilV (repErr 25)) 0 HS0.out
      have hq := Same.sets (S := fun q => q ≠ w.heap.size + 1) (g := w.heap.size + 1) (fun h => h rfl) (repCs nilV (repErr 25)) 0 (Same.refl _ w2)
      rw [HL.out]
      exact bodyPost_ret (lease_results (r := repErr 25) (vp := nilV) (show Row _ _ _ (repCs nilV (repErr 25)) from R1.out.sets (repCs nilV (repErr 25)) 0) rfl) rfl ⟨vc, vr, vd, nilV, rfl, HP.out.keep hq (by omega), Ho.out.keepAll hS2, OwnR.nil _ _, hS2.mono fun _ _ _ => trivial⟩
  · have d1 : decide ((1099511627776 : Int) ≤ p.epoch) = true := by simp; omega
    have HL := Lib.hid (show leaseF p c = (p, repErr 25) by
      have : leaseOk p c = false := by simp [leaseOk, h1]
      unfold leaseF; rw [this]; rfl)
    clear hwrap h1
    go_quiet (fail)
    rename_i nq
    have HS0 := Lib.hid (HS0.out.drewN nq)
    have r0 := R0.out.keep ((Same.refl (fun _ => True) w1).drewN nq) trivial
    have r1 := R1.out.keep ((Same.refl (fun _ => True) w1).drewN nq) trivial
    have hp := HP.out.keep ((Same.refl (fun _ => True) w1).drewN nq) trivial
    clear p0 p1 p2 p3 p4 p5 p6 p7 p8 c0 c1 c2 c3 c4 c5 c6 c7 c8 c9 c10 c11 c12 c13 e0 f0 e1 f1 e2 f2 e3 f3 e4 f4 e5 f5 e6 f6 e7 f7 e8 f8 e9 f9 e10 f10 g0 g1 g2 g3 g4 g5 g6 g7 g8
    generalize w1.drewN nq = w2 at *
    have R0 := Lib.hid r0
    have R1 := Lib.hid r1
    have HP := Lib.hid hp
    have z2 := r1.lt
    have zp := hp.lt
    have p0 := hp.cell 0
    have p1 := hp.cell 1
    have p2 := hp.cell 2
    have p3 := hp.cell 3
    have p4 := hp.cell 4
    have p5 := hp.cell 5
    have p6 := hp.cell 6
    have p7 := hp.cell 7
    have p8 := hp.cell 8
    simp only [List.getElem?_cons_zero, List.getElem?_cons_succ] at p0 p1 p2 p3 p4 p5 p6 p7 p8
    have c0 := r0.cell 0
    have c1 := r0.cell 1
    have c2 := r0.cell 2
    have c3 := r0.cell 3
    have c4 := r0.cell 4
    have c5 := r0.cell 5
    have c6 := r0.cell 6
    have c7 := r0.cell 7
    have c8 := r0.cell 8
    have c9 := r0.cell 9
    have c10 := r0.cell 10
    have c11 := r0.cell 11
    have c12 := r0.cell 12
    have c13 := r0.cell 13
    simp only [List.getElem?_cons_zero, List.getElem?_cons_succ] at c0 c1 c2 c3 c4 c5 c6 c7 c8 c9 c10 c11 c12 c13
    have e0 := r1.cell 0
    have e1 := r1.cell 1
    have e2 := r1.cell 2
    have e3 := r1.cell 3
    have e4 := r1.cell 4
    have e5 := r1.cell 5
    have e6 := r1.cell 6
    have e7 := r1.cell 7
    have e8 := r1.cell 8
    have e9 := r1.cell 9
    have e10 := r1.cell 10
    simp only [List.getElem?_cons_zero, List.getElem?_cons_succ] at e0 e1 e2 e3 e4 e5 e6 e7 e8 e9 e10
    have f0 := r1.frozen 0
    have f1 := r1.frozen 1
    have f2 := r1.frozen 2
    have f3 := r1.frozen 3
    have f4 := r1.frozen 4
    have f5 := r1.frozen 5
    have f6 := r1.frozen 6
    have f7 := r1.frozen 7
    have f8 := r1.frozen 8
    have f9 := r1.frozen 9
    have f10 := r1.frozen 10
    have g0 := hp.frozen 0
    have g1 := hp.frozen 1
    have g2 := hp.frozen 2
    have g3 := hp.frozen 3
    have g4 := hp.frozen 4
    have g5 := hp.frozen 5
    have g6 := hp.frozen 6
    have g7 := hp.frozen 7
    have g8 := hp.frozen 8
    clear r0 r1 hp
    go_wp2
    have hS2 := Same.sets' (S := fun _ => True) (w := w) (g := w.heap.size + 1) (by omega) (repCs nilV (repErr 25)) 0 HS0.out
    have hq := Same.sets (S := fun q => q ≠ w.heap.size + 1) (g := w.heap.size + 1) (fun h => h rfl) (repCs nilV (repErr 25)) 0 (Same.refl _ w2)
    rw [HL.out]
    exact bodyPost_ret (lease_results (r := repErr 25) (vp := nilV) (show Row _ _ _ (repCs nilV (repErr 25)) from R1.out.sets (repCs nilV (repErr 25)) 0) rfl) rfl ⟨vc, vr, vd, nilV, rfl, HP.out.keep hq (by omega), Ho.out.keepAll hS2, OwnR.nil _ _, hS2.mono fun _ _ _ => trivial⟩
end Go.Proofs.Ytoldelocfmpccaa
namespace Go.Proofs.Ytoldelocfmpccaa
open Go.RowKit
theorem OwnP.cells {w : World} {B : Nat} {A : Option Addr} {n c : Nat} {l : List (List UInt8 × List UInt8)} (h : OwnP w B (.slice A n c) l) {i : Nat} (hi : i < l.length) : ∃ ad, A = some ad ∧ B ≤ ad.block ∧
    w.cell? (ad.add (i * 2)) = some (.string (str l[i].1)) ∧ w.cell? ⟨(ad.add (i * 2)).block, (ad.add (i * 2)).off + 1, none⟩ = some (.string (str l[i].2)) := by
  obtain ⟨ad, c, h1, h2, h3, h4, h5⟩ := RowR.at_ ((OwnR.wr h).row fun _ => rfl) (fun _ => rfl) hi
  injection h1 with h1 _ _
  exact ⟨ad, h1, h4, by have := h5 0 (by omega); rwa [add_zero] at this, h5 1 (by omega)⟩
theorem OwnP.form {w : World} {B : Nat} {v : Value} {l : List (List UInt8 × List UInt8)} (h : OwnP w B v l) : ∃ A c, v = .slice A l.length c ∧ l.length ≤ c ∧ c ≤ maxLen := OwnR.form h
end Go.Proofs.Ytoldelocfmpccaa
