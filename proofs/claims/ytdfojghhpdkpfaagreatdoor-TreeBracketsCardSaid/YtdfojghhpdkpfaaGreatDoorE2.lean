/-
  Words, plain models, laws and walks that the claims of this layer share (joined by shake.py). No condition.
-/
import Derived.BigQuiet
import Derived.Deep.QuietTactic
import Derived.Test.YtdfojghhpdkpfaaGreatDoorA9
import Derived.Test.YtdfojghhpdkpfaaGreatDoorA8
import Derived.Test.YtdfojghhpdkpfaaGreatDoorA7
import Derived.Test.YtdfojghhpdkpfaaGreatDoorA6
import Derived.Test.YtdfojghhpdkpfaaGreatDoorA5
import Derived.Test.YtdfojghhpdkpfaaGreatDoorA4
import Derived.Test.YtdfojghhpdkpfaaGreatDoorA3
import Derived.Test.YtdfojghhpdkpfaaGreatDoorA2
import Derived.Test.YtdfojghhpdkpfaaGreatDoorA12
import Derived.Test.YtdfojghhpdkpfaaGreatDoorA11
import Derived.Test.YtdfojghhpdkpfaaGreatDoorA10
import Derived.Test.YtdfojghhpdkpfaaGreatDoorA1
import Derived.Test.YtdfojghhpdkpfaaGreatDoorE1
set_option linter.unusedSimpArgs false
set_option linter.unusedVariables false
namespace Go.Proofs.YtdfojghhpdkpfaaGreatDoor
open Go.RowKit
theorem same_self (e : Ex) (u u' : Value) (w : World) (h : ExR w (fun _ => True) u e) (h' : ExR w (fun _ => True) u' e) : Calls Tryz.prog 14 #[exV u e, exV u' e] w (BoolP true w) := by
  have := refsamex_any e e u u' w h h'
  rwa [(sameE_iff e e).2 rfl] at this
theorem headD_drop (p : List UInt8) : (str (headD ++ p)).extract 20 (str (headD ++ p)).size = str p := by
  rw [ext_drop, bl_str]
  rfl
set_option maxRecDepth 100000 in
set_option maxHeartbeats 32000000 in
theorem brackets_walk (a b c : Ex) (ua ub uc : Value) (w : World) (ia : ExI a) (ib : ExI b) (ic : ExI c) (ha : ExR w (fun _ => True) ua a) (hb : ExR w (fun _ => True) ub b) (hc : ExR w (fun _ => True) uc c) (hE : EnvT w) :
    Calls Tryz.prog 4 #[exV ua a, exV ub b, exV uc c] w fun e w' => e = .returned (.bool true) ∧ Same (fun _ => True) w w' := by
  obtain ⟨Aa, na, rfl, -, -⟩ := ha.toL.form
  obtain ⟨Ab, nb, rfl, -, -⟩ := hb.toL.form
  obtain ⟨Ac, nc, rfl, -, -⟩ := hc.toL.form
  have hA := (Same.refl (fun _ => True) w).alloc (.cells #[.int .i64 a.kind, .string (str a.s), .int .i64 a.v.kind, .int .i64 a.v.n, .string (str a.v.s), .slice Aa a.args.length na] 34)
  have hB := (Same.refl (fun _ => True) (w.alloc (.cells #[.int .i64 a.kind, .string (str a.s), .int .i64 a.v.kind, .int .i64 a.v.n, .string (str a.v.s), .slice Aa a.args.length na] 34))).alloc (.cells #[.int .i64 b.kind, .string (str b.s), .int .i64 b.v.kind, .int .i64 b.v.n, .string (str b.v.s), .slice Ab b.args.length nb] 34)
  have hC := (Same.refl (fun _ => True) ((w.alloc (.cells #[.int .i64 a.kind, .string (str a.s), .int .i64 a.v.kind, .int .i64 a.v.n, .string (str a.v.s), .slice Aa a.args.length na] 34)).alloc (.cells #[.int .i64 b.kind, .string (str b.s), .int .i64 b.v.kind, .int .i64 b.v.n, .string (str b.v.s), .slice Ab b.args.length nb] 34))).alloc (.cells #[.int .i64 c.kind, .string (str c.s), .int .i64 c.v.kind, .int .i64 c.v.n, .string (str c.v.s), .slice Ac c.args.length nc] 34)
  have hra := ((Row.new w 34 [.int .i64 a.kind, .string (str a.s), .int .i64 a.v.kind, .int .i64 a.v.n, .string (str a.v.s), .slice Aa a.args.length na]).keep hB trivial).keep hC trivial
  have hrb := (Row.new (w.alloc (.cells #[.int .i64 a.kind, .string (str a.s), .int .i64 a.v.kind, .int .i64 a.v.n, .string (str a.v.s), .slice Aa a.args.length na] 34)) 34 [.int .i64 b.kind, .string (str b.s), .int .i64 b.v.kind, .int .i64 b.v.n, .string (str b.v.s), .slice Ab b.args.length nb]).keep hC trivial
  have hrc := Row.new ((w.alloc (.cells #[.int .i64 a.kind, .string (str a.s), .int .i64 a.v.kind, .int .i64 a.v.n, .string (str a.v.s), .slice Aa a.args.length na] 34)).alloc (.cells #[.int .i64 b.kind, .string (str b.s), .int .i64 b.v.kind, .int .i64 b.v.n, .string (str b.v.s), .slice Ab b.args.length nb] 34)) 34 [.int .i64 c.kind, .string (str c.s), .int .i64 c.v.kind, .int .i64 c.v.n, .string (str c.v.s), .slice Ac c.args.length nc]
  have hz1 : (w.alloc (.cells #[.int .i64 a.kind, .string (str a.s), .int .i64 a.v.kind, .int .i64 a.v.n, .string (str a.v.s), .slice Aa a.args.length na] 34)).heap.size = w.heap.size + 1 := by simp
  have hz2 : ((w.alloc (.cells #[.int .i64 a.kind, .string (str a.s), .int .i64 a.v.kind, .int .i64 a.v.n, .string (str a.v.s), .slice Aa a.args.length na] 34)).alloc (.cells #[.int .i64 b.kind, .string (str b.s), .int .i64 b.v.kind, .int .i64 b.v.n, .string (str b.v.s), .slice Ab b.args.length nb] 34)).heap.size = w.heap.size + 2 := by simp
  rw [hz1] at hrb
  rw [hz2] at hrc
  have hs := (hA.trans hB).trans hC
  have hxa := ha.keepAll hs
  have hxb := hb.keepAll hs
  have hxc := hc.keepAll hs
  have he1 := hE.keepAll hs
  clear ha hb hc hE hA hB hC hz1 hz2
  go_enter Tryz.func4, Tryz.ntmps4
  go_upto_region 1 with (fail)
  revert hra hrb hrc hs hxa hxb hxc he1
  generalize ((w.alloc _).alloc _).alloc _ = w0
  intro hra hrb hrc hs hxa hxb hxc he1
  generalize w.heap.size = g at *
  have HRA := Lib.hid hra
  have HRB := Lib.hid hrb
  have HRC := Lib.hid hrc
  have HXA := Lib.hid hxa
  have HXB := Lib.hid hxb
  have HXC := Lib.hid hxc
  have HE := Lib.hid he1
  have HS := Lib.hid hs
  clear hra hrb hrc hs hxa hxb hxc he1
  go_wp2_with (go_at_call 9; refine stopAt ?_)
  unfold Hid
  refine (begun_any w0 HE.out).mono ?_
  rintro e w1 ⟨rfl, hS⟩
  have HRA := Lib.hid (HRA.out.keep hS trivial)
  have HRB := Lib.hid (HRB.out.keep hS trivial)
  have HRC := Lib.hid (HRC.out.keep hS trivial)
  have HXA := Lib.hid (HXA.out.keepAll hS)
  have HXB := Lib.hid (HXB.out.keepAll hS)
  have HXC := Lib.hid (HXC.out.keepAll hS)
  have HE := Lib.hid (HE.out.keepAll hS)
  have HS := Lib.hid (HS.out.trans hS)
  clear hS
  have ca0 := HRA.out.cell 0
  have ca1 := HRA.out.cell 1
  have ca2 := HRA.out.cell 2
  have ca3 := HRA.out.cell 3
  have ca4 := HRA.out.cell 4
  have ca5 := HRA.out.cell 5
  simp only [List.getElem?_cons_zero, List.getElem?_cons_succ] at ca0 ca1 ca2 ca3 ca4 ca5
  have cb0 := HRB.out.cell 0
  have cb1 := HRB.out.cell 1
  have cb2 := HRB.out.cell 2
  have cb3 := HRB.out.cell 3
  have cb4 := HRB.out.cell 4
  have cb5 := HRB.out.cell 5
  simp only [List.getElem?_cons_zero, List.getElem?_cons_succ] at cb0 cb1 cb2 cb3 cb4 cb5
  have cc0 := HRC.out.cell 0
  have cc1 := HRC.out.cell 1
  have cc2 := HRC.out.cell 2
  have cc3 := HRC.out.cell 3
  have cc4 := HRC.out.cell 4
  have cc5 := HRC.out.cell 5
  simp only [List.getElem?_cons_zero, List.getElem?_cons_succ] at cc0 cc1 cc2 cc3 cc4 cc5
  go_wp2_with (go_at_call 11; refine stopAt ?_)
  unfold Hid
  refine (show Calls _ _ _ _ _ from count_any a 60 _ _ HXA.out).mono ?_
  rintro e w2 ⟨⟨ma, rfl⟩, hS⟩
  have HRA := Lib.hid (HRA.out.keep hS trivial)
  have HRB := Lib.hid (HRB.out.keep hS trivial)
  have HRC := Lib.hid (HRC.out.keep hS trivial)
  have HXA := Lib.hid (HXA.out.keepAll hS)
  have HXB := Lib.hid (HXB.out.keepAll hS)
  have HXC := Lib.hid (HXC.out.keepAll hS)
  have HE := Lib.hid (HE.out.keepAll hS)
  have HS := Lib.hid (HS.out.trans hS)
  clear hS
  clear ca0 ca1 ca2 ca3 ca4 ca5 cb0 cb1 cb2 cb3 cb4 cb5 cc0 cc1 cc2 cc3 cc4 cc5
  have ca0 := HRA.out.cell 0
  have ca1 := HRA.out.cell 1
  have ca2 := HRA.out.cell 2
  have ca3 := HRA.out.cell 3
  have ca4 := HRA.out.cell 4
  have ca5 := HRA.out.cell 5
  simp only [List.getElem?_cons_zero, List.getElem?_cons_succ] at ca0 ca1 ca2 ca3 ca4 ca5
  have cb0 := HRB.out.cell 0
  have cb1 := HRB.out.cell 1
  have cb2 := HRB.out.cell 2
  have cb3 := HRB.out.cell 3
  have cb4 := HRB.out.cell 4
  have cb5 := HRB.out.cell 5
  simp only [List.getElem?_cons_zero, List.getElem?_cons_succ] at cb0 cb1 cb2 cb3 cb4 cb5
  have cc0 := HRC.out.cell 0
  have cc1 := HRC.out.cell 1
  have cc2 := HRC.out.cell 2
  have cc3 := HRC.out.cell 3
  have cc4 := HRC.out.cell 4
  have cc5 := HRC.out.cell 5
  simp only [List.getElem?_cons_zero, List.getElem?_cons_succ] at cc0 cc1 cc2 cc3 cc4 cc5
  by_cases hm : (60 : Int) < ma
  · have e1 := decide_eq_true hm
    clear hm
    go_wp2
    go_ret
    exact ⟨rfl, HS.out⟩
  have eqa : decide ((60 : Int) < ma) = false := decide_eq_false hm
  clear hm
  go_wp2_with (go_at_call 11; refine stopAt ?_)
  unfold Hid
  refine (show Calls _ _ _ _ _ from count_any b 60 _ _ HXB.out).mono ?_
  rintro e w2 ⟨⟨mb, rfl⟩, hS⟩
  have HRA := Lib.hid (HRA.out.keep hS trivial)
  have HRB := Lib.hid (HRB.out.keep hS trivial)
  have HRC := Lib.hid (HRC.out.keep hS trivial)
  have HXA := Lib.hid (HXA.out.keepAll hS)
  have HXB := Lib.hid (HXB.out.keepAll hS)
  have HXC := Lib.hid (HXC.out.keepAll hS)
  have HE := Lib.hid (HE.out.keepAll hS)
  have HS := Lib.hid (HS.out.trans hS)
  clear hS
  clear ca0 ca1 ca2 ca3 ca4 ca5 cb0 cb1 cb2 cb3 cb4 cb5 cc0 cc1 cc2 cc3 cc4 cc5
  have ca0 := HRA.out.cell 0
  have ca1 := HRA.out.cell 1
  have ca2 := HRA.out.cell 2
  have ca3 := HRA.out.cell 3
  have ca4 := HRA.out.cell 4
  have ca5 := HRA.out.cell 5
  simp only [List.getElem?_cons_zero, List.getElem?_cons_succ] at ca0 ca1 ca2 ca3 ca4 ca5
  have cb0 := HRB.out.cell 0
  have cb1 := HRB.out.cell 1
  have cb2 := HRB.out.cell 2
  have cb3 := HRB.out.cell 3
  have cb4 := HRB.out.cell 4
  have cb5 := HRB.out.cell 5
  simp only [List.getElem?_cons_zero, List.getElem?_cons_succ] at cb0 cb1 cb2 cb3 cb4 cb5
  have cc0 := HRC.out.cell 0
  have cc1 := HRC.out.cell 1
  have cc2 := HRC.out.cell 2
  have cc3 := HRC.out.cell 3
  have cc4 := HRC.out.cell 4
  have cc5 := HRC.out.cell 5
  simp only [List.getElem?_cons_zero, List.getElem?_cons_succ] at cc0 cc1 cc2 cc3 cc4 cc5
  by_cases hm : (60 : Int) < mb
  · have e1 := decide_eq_true hm
    clear hm
    go_wp2
    go_ret
    exact ⟨rfl, HS.out⟩
  have eqb : decide ((60 : Int) < mb) = false := decide_eq_false hm
  clear hm
  go_wp2_with (go_at_call 11; refine stopAt ?_)
  unfold Hid
  refine (show Calls _ _ _ _ _ from count_any c 60 _ _ HXC.out).mono ?_
  rintro e w2 ⟨⟨mc, rfl⟩, hS⟩
  have HRA := Lib.hid (HRA.out.keep hS trivial)
  have HRB := Lib.hid (HRB.out.keep hS trivial)
  have HRC := Lib.hid (HRC.out.keep hS trivial)
  have HXA := Lib.hid (HXA.out.keepAll hS)
  have HXB := Lib.hid (HXB.out.keepAll hS)
  have HXC := Lib.hid (HXC.out.keepAll hS)
  have HE := Lib.hid (HE.out.keepAll hS)
  have HS := Lib.hid (HS.out.trans hS)
  clear hS
  clear ca0 ca1 ca2 ca3 ca4 ca5 cb0 cb1 cb2 cb3 cb4 cb5 cc0 cc1 cc2 cc3 cc4 cc5
  have ca0 := HRA.out.cell 0
  have ca1 := HRA.out.cell 1
  have ca2 := HRA.out.cell 2
  have ca3 := HRA.out.cell 3
  have ca4 := HRA.out.cell 4
  have ca5 := HRA.out.cell 5
  simp only [List.getElem?_cons_zero, List.getElem?_cons_succ] at ca0 ca1 ca2 ca3 ca4 ca5
  have cb0 := HRB.out.cell 0
  have cb1 := HRB.out.cell 1
  have cb2 := HRB.out.cell 2
  have cb3 := HRB.out.cell 3
  have cb4 := HRB.out.cell 4
  have cb5 := HRB.out.cell 5
  simp only [List.getElem?_cons_zero, List.getElem?_cons_succ] at cb0 cb1 cb2 cb3 cb4 cb5
  have cc0 := HRC.out.cell 0
  have cc1 := HRC.out.cell 1
  have cc2 := HRC.out.cell 2
  have cc3 := HRC.out.cell 3
  have cc4 := HRC.out.cell 4
  have cc5 := HRC.out.cell 5
  simp only [List.getElem?_cons_zero, List.getElem?_cons_succ] at cc0 cc1 cc2 cc3 cc4 cc5
  by_cases hm : (60 : Int) < mc
  · have e1 := decide_eq_true hm
    clear hm
    go_wp2
    go_ret
    exact ⟨rfl, HS.out⟩
  have eqc : decide ((60 : Int) < mc) = false := decide_eq_false hm
  clear hm
  have oa := whr_ok a
  go_wp2_with (go_at_call 12; refine stopAt ?_)
  unfold Hid
  refine (show Calls _ _ _ _ _ from whr_any a _ _ ia HXA.out HE.out).mono ?_
  rintro e w2 ⟨rfl, hS⟩
  have HRA := Lib.hid (HRA.out.keep hS trivial)
  have HRB := Lib.hid (HRB.out.keep hS trivial)
  have HRC := Lib.hid (HRC.out.keep hS trivial)
  have HXA := Lib.hid (HXA.out.keepAll hS)
  have HXB := Lib.hid (HXB.out.keepAll hS)
  have HXC := Lib.hid (HXC.out.keepAll hS)
  have HE := Lib.hid (HE.out.keepAll hS)
  have HS := Lib.hid (HS.out.trans hS)
  clear hS
  clear ca0 ca1 ca2 ca3 ca4 ca5 cb0 cb1 cb2 cb3 cb4 cb5 cc0 cc1 cc2 cc3 cc4 cc5
  have ca0 := HRA.out.cell 0
  have ca1 := HRA.out.cell 1
  have ca2 := HRA.out.cell 2
  have ca3 := HRA.out.cell 3
  have ca4 := HRA.out.cell 4
  have ca5 := HRA.out.cell 5
  simp only [List.getElem?_cons_zero, List.getElem?_cons_succ] at ca0 ca1 ca2 ca3 ca4 ca5
  have cb0 := HRB.out.cell 0
  have cb1 := HRB.out.cell 1
  have cb2 := HRB.out.cell 2
  have cb3 := HRB.out.cell 3
  have cb4 := HRB.out.cell 4
  have cb5 := HRB.out.cell 5
  simp only [List.getElem?_cons_zero, List.getElem?_cons_succ] at cb0 cb1 cb2 cb3 cb4 cb5
  have cc0 := HRC.out.cell 0
  have cc1 := HRC.out.cell 1
  have cc2 := HRC.out.cell 2
  have cc3 := HRC.out.cell 3
  have cc4 := HRC.out.cell 4
  have cc5 := HRC.out.cell 5
  simp only [List.getElem?_cons_zero, List.getElem?_cons_succ] at cc0 cc1 cc2 cc3 cc4 cc5
  generalize printF (delL a) = ra at *
  obtain ⟨xa, na⟩ := ra
  dsimp only at oa
  dsimp only
  have HOa := Lib.hid oa
  clear oa
  have ob := whr_ok b
  go_wp2_with (go_at_call 12; refine stopAt ?_)
  unfold Hid
  refine (show Calls _ _ _ _ _ from whr_any b _ _ ib HXB.out HE.out).mono ?_
  rintro e w2 ⟨rfl, hS⟩
  have HRA := Lib.hid (HRA.out.keep hS trivial)
  have HRB := Lib.hid (HRB.out.keep hS trivial)
  have HRC := Lib.hid (HRC.out.keep hS trivial)
  have HXA := Lib.hid (HXA.out.keepAll hS)
  have HXB := Lib.hid (HXB.out.keepAll hS)
  have HXC := Lib.hid (HXC.out.keepAll hS)
  have HE := Lib.hid (HE.out.keepAll hS)
  have HS := Lib.hid (HS.out.trans hS)
  clear hS
  clear ca0 ca1 ca2 ca3 ca4 ca5 cb0 cb1 cb2 cb3 cb4 cb5 cc0 cc1 cc2 cc3 cc4 cc5
  have ca0 := HRA.out.cell 0
  have ca1 := HRA.out.cell 1
  have ca2 := HRA.out.cell 2
  have ca3 := HRA.out.cell 3
  have ca4 := HRA.out.cell 4
  have ca5 := HRA.out.cell 5
  simp only [List.getElem?_cons_zero, List.getElem?_cons_succ] at ca0 ca1 ca2 ca3 ca4 ca5
  have cb0 := HRB.out.cell 0
  have cb1 := HRB.out.cell 1
  have cb2 := HRB.out.cell 2
  have cb3 := HRB.out.cell 3
  have cb4 := HRB.out.cell 4
  have cb5 := HRB.out.cell 5
  simp only [List.getElem?_cons_zero, List.getElem?_cons_succ] at cb0 cb1 cb2 cb3 cb4 cb5
  have cc0 := HRC.out.cell 0
  have cc1 := HRC.out.cell 1
  have cc2 := HRC.out.cell 2
  have cc3 := HRC.out.cell 3
  have cc4 := HRC.out.cell 4
  have cc5 := HRC.out.cell 5
  simp only [List.getElem?_cons_zero, List.getElem?_cons_succ] at cc0 cc1 cc2 cc3 cc4 cc5
  generalize printF (delL b) = rb at *
  obtain ⟨xb, nb⟩ := rb
  dsimp only at ob
  dsimp only
  have HOb := Lib.hid ob
  clear ob
  have oc := whr_ok c
  go_wp2_with (go_at_call 12; refine stopAt ?_)
  unfold Hid
  refine (show Calls _ _ _ _ _ from whr_any c _ _ ic HXC.out HE.out).mono ?_
  rintro e w2 ⟨rfl, hS⟩
  have HRA := Lib.hid (HRA.out.keep hS trivial)
  have HRB := Lib.hid (HRB.out.keep hS trivial)
  have HRC := Lib.hid (HRC.out.keep hS trivial)
  have HXA := Lib.hid (HXA.out.keepAll hS)
  have HXB := Lib.hid (HXB.out.keepAll hS)
  have HXC := Lib.hid (HXC.out.keepAll hS)
  have HE := Lib.hid (HE.out.keepAll hS)
  have HS := Lib.hid (HS.out.trans hS)
  clear hS
  clear ca0 ca1 ca2 ca3 ca4 ca5 cb0 cb1 cb2 cb3 cb4 cb5 cc0 cc1 cc2 cc3 cc4 cc5
  have ca0 := HRA.out.cell 0
  have ca1 := HRA.out.cell 1
  have ca2 := HRA.out.cell 2
  have ca3 := HRA.out.cell 3
  have ca4 := HRA.out.cell 4
  have ca5 := HRA.out.cell 5
  simp only [List.getElem?_cons_zero, List.getElem?_cons_succ] at ca0 ca1 ca2 ca3 ca4 ca5
  have cb0 := HRB.out.cell 0
  have cb1 := HRB.out.cell 1
  have cb2 := HRB.out.cell 2
  have cb3 := HRB.out.cell 3
  have cb4 := HRB.out.cell 4
  have cb5 := HRB.out.cell 5
  simp only [List.getElem?_cons_zero, List.getElem?_cons_succ] at cb0 cb1 cb2 cb3 cb4 cb5
  have cc0 := HRC.out.cell 0
  have cc1 := HRC.out.cell 1
  have cc2 := HRC.out.cell 2
  have cc3 := HRC.out.cell 3
  have cc4 := HRC.out.cell 4
  have cc5 := HRC.out.cell 5
  simp only [List.getElem?_cons_zero, List.getElem?_cons_succ] at cc0 cc1 cc2 cc3 cc4 cc5
  generalize printF (delL c) = rc at *
  obtain ⟨xc, nc⟩ := rc
  dsimp only at oc
  dsimp only
  have HOc := Lib.hid oc
  clear oc
  by_cases hn : na = 0
  case neg =>
    have e1 : ((na : Int) != 0) = true := ne_t (by omega)
    have e2 : ¬ (na : Int) = 0 := by omega
    go_wp2
    go_ret
    exact ⟨rfl, HS.out⟩
  case pos =>
  subst hn
  by_cases hn : nb = 0
  case neg =>
    have e1 : ((nb : Int) != 0) = true := ne_t (by omega)
    have e2 : ¬ (nb : Int) = 0 := by omega
    go_wp2
    go_ret
    exact ⟨rfl, HS.out⟩
  case pos =>
  subst hn
  by_cases hn : nc = 0
  case neg =>
    have e1 : ((nc : Int) != 0) = true := ne_t (by omega)
    have e2 : ¬ (nc : Int) = 0 := by omega
    go_wp2
    go_ret
    exact ⟨rfl, HS.out⟩
  case pos =>
  subst hn
  by_cases hl : (1500 : Int) < ((str xa).size : Int)
  · have e1 := decide_eq_true hl
    clear hl
    go_wp2
    go_ret
    exact ⟨rfl, HS.out⟩
  have ela : decide ((1500 : Int) < ((str xa).size : Int)) = false := decide_eq_false hl
  have hla : xa.length ≤ 1500 := by rw [str_size] at hl; omega
  clear hl
  by_cases hl : (1500 : Int) < ((str xb).size : Int)
  · have e1 := decide_eq_true hl
    clear hl
    go_wp2
    go_ret
    exact ⟨rfl, HS.out⟩
  have elb : decide ((1500 : Int) < ((str xb).size : Int)) = false := decide_eq_false hl
  have hlb : xb.length ≤ 1500 := by rw [str_size] at hl; omega
  clear hl
  by_cases hl : (1500 : Int) < ((str xc).size : Int)
  · have e1 := decide_eq_true hl
    clear hl
    go_wp2
    go_ret
    exact ⟨rfl, HS.out⟩
  have elc : decide ((1500 : Int) < ((str xc).size : Int)) = false := decide_eq_false hl
  have hlc : xc.length ≤ 1500 := by rw [str_size] at hl; omega
  clear hl
  obtain ⟨maa, rfl⟩ := HOa.out rfl
  obtain ⟨mab, rfl⟩ := HOb.out rfl
  obtain ⟨mac, rfl⟩ := HOc.out rfl
  have h20a : (20 : Int) ≤ ((str (headD ++ showE a)).size : Int) := by rw [str_size, List.length_append]; simp [headD]; omega
  have hdra := headD_drop (showE a)
  have hpa : (showE a).length ≤ 1500 := by rw [List.length_append] at hla; omega
  have HPRa := Lib.hid (plain_read (a := a) maa ia)
  clear hla
  have h20b : (20 : Int) ≤ ((str (headD ++ showE b)).size : Int) := by rw [str_size, List.length_append]; simp [headD]; omega
  have hdrb := headD_drop (showE b)
  have hpb : (showE b).length ≤ 1500 := by rw [List.length_append] at hlb; omega
  have HPRb := Lib.hid (plain_read (a := b) mab ib)
  clear hlb
  have h20c : (20 : Int) ≤ ((str (headD ++ showE c)).size : Int) := by rw [str_size, List.length_append]; simp [headD]; omega
  have hdrc := headD_drop (showE c)
  have hpc : (showE c).length ≤ 1500 := by rw [List.length_append] at hlc; omega
  have HPRc := Lib.hid (plain_read (a := c) mac ic)
  clear hlc
  have HCH := Lib.hid (chain_read maa mab mac ia ib ic) 
  have HSM := Lib.hid (sums_read maa mab mac ia ib ic)
  have dpa := (expr_read a 16 (by omega) maa).2.2.1
  have dpb := (expr_read b 16 (by omega) mab).2.2.1
  have dpc := (expr_read c 16 (by omega) mac).2.2.1
  generalize hpa' : showE a = pa at *
  generalize hpb' : showE b = pb at *
  generalize hpc' : showE c = pc at *
  clear hpa' hpb' hpc' HOa HOb HOc
  generalize str (headD ++ pa) = Sa at *
  generalize str (headD ++ pb) = Sb at *
  generalize str (headD ++ pc) = Sc at *
  go_upto_region 10 with (fail)
  go_quiet (fail)
  generalize hW : World.drewN _ _ = wd
  have hS : Same (fun _ => True) _ wd := hW ▸ (Same.refl _ _).drewN _
  clear hW
  have HRA := Lib.hid (HRA.out.keep hS trivial)
  have HRB := Lib.hid (HRB.out.keep hS trivial)
  have HRC := Lib.hid (HRC.out.keep hS trivial)
  have HXA := Lib.hid (HXA.out.keepAll hS)
  have HXB := Lib.hid (HXB.out.keepAll hS)
  have HXC := Lib.hid (HXC.out.keepAll hS)
  have HE := Lib.hid (HE.out.keepAll hS)
  have HS := Lib.hid (HS.out.trans hS)
  clear hS h20a h20b h20c hdra hdrb hdrc ela elb elc
  clear ca0 ca1 ca2 ca3 ca4 ca5 cb0 cb1 cb2 cb3 cb4 cb5 cc0 cc1 cc2 cc3 cc4 cc5
  have ca0 := HRA.out.cell 0
  have ca1 := HRA.out.cell 1
  have ca2 := HRA.out.cell 2
  have ca3 := HRA.out.cell 3
  have ca4 := HRA.out.cell 4
  have ca5 := HRA.out.cell 5
  simp only [List.getElem?_cons_zero, List.getElem?_cons_succ] at ca0 ca1 ca2 ca3 ca4 ca5
  have cb0 := HRB.out.cell 0
  have cb1 := HRB.out.cell 1
  have cb2 := HRB.out.cell 2
  have cb3 := HRB.out.cell 3
  have cb4 := HRB.out.cell 4
  have cb5 := HRB.out.cell 5
  simp only [List.getElem?_cons_zero, List.getElem?_cons_succ] at cb0 cb1 cb2 cb3 cb4 cb5
  have cc0 := HRC.out.cell 0
  have cc1 := HRC.out.cell 1
  have cc2 := HRC.out.cell 2
  have cc3 := HRC.out.cell 3
  have cc4 := HRC.out.cell 4
  have cc5 := HRC.out.cell 5
  simp only [List.getElem?_cons_zero, List.getElem?_cons_succ] at cc0 cc1 cc2 cc3 cc4 cc5
  obtain ⟨Yp1, hYp1⟩ : ∃ y, y = [68, 69, 76, 69, 84, 69, 32, 70, 82, 79, 77, 32, 84, 32, 87, 72, 69, 82, 69, 32, 40, 40] ++ pa := ⟨_, rfl⟩
  have lYp1 : Yp1.length = 22 + pa.length := by rw [hYp1, List.length_append]; rfl
  have aYp1 : ∀ w, (Op.stringOp .add ⟨#[68, 69, 76, 69, 84, 69, 32, 70, 82, 79, 77, 32, 84, 32, 87, 72, 69, 82, 69, 32, 40, 40]⟩ (str pa)).run Tryz.prog w = .ok (.string (str Yp1)) w := fun w => hYp1 ▸ add_str ([68, 69, 76, 69, 84, 69, 32, 70, 82, 79, 77, 32, 84, 32, 87, 72, 69, 82, 69, 32, 40, 40]) pa (by first | omega | (simp only [List.length_cons, List.length_nil]; omega)) w
  obtain ⟨Yp2, hYp2⟩ : ∃ y, y = Yp1 ++ [41, 41] := ⟨_, rfl⟩
  have lYp2 : Yp2.length = Yp1.length + 2 := by rw [hYp2, List.length_append]; rfl
  have aYp2 : ∀ w, (Op.stringOp .add (str Yp1) ⟨#[41, 41]⟩).run Tryz.prog w = .ok (.string (str Yp2)) w := fun w => hYp2 ▸ add_str Yp1 ([41, 41]) (by first | omega | (simp only [List.length_cons, List.length_nil]; omega)) w
  have fYp2 : Yp2 = plainBr pa := by rw [hYp2, hYp1]; simp [plainBr, headD]
  have LYp1 := Lib.hid lYp1
  have LYp2 := Lib.hid lYp2
  have FYp2 := Lib.hid fYp2
  clear fYp2 lYp1 lYp2 hYp2 hYp1
  by_cases hlp : Yp2.length ≤ 2000
  case neg =>
    have hpr := parse_long (s := Yp2) (by omega)
    have hp := parse_at Yp2 _ (by have := LYp2.out; have := LYp1.out; omega) HE.out.max
    rw [hpr] at hp
    clear hpr hlp
    go_wp2_with (go_at_call 10; refine stopAt ?_)
    unfold Hid
    refine (show Calls _ _ _ _ _ from hp).mono ?_
    rintro e wp ⟨up, rfl, hlt, hS⟩
    dsimp only at hlt
    obtain ⟨A4, c4, rfl, -, -⟩ := (show LsR stCsP 15 StR _ _ up LotM.zero.stmts from hlt).form
    have hA := (Same.refl (fun _ => True) wp).alloc (.cells #[.int .i64 LotM.zero.mode, .int .i64 LotM.zero.n, .slice A4 LotM.zero.stmts.length c4] 25)
    have hrow := Row.new wp 25 [.int .i64 LotM.zero.mode, .int .i64 LotM.zero.n, .slice A4 LotM.zero.stmts.length c4]
    have hl1 : LsR stCsP 15 StR (wp.alloc (.cells #[.int .i64 LotM.zero.mode, .int .i64 LotM.zero.n, .slice A4 LotM.zero.stmts.length c4] 25)) (fun _ => True) (.slice A4 LotM.zero.stmts.length c4) LotM.zero.stmts := (LsR.mono stK (by omega) (show LsR stCsP 15 StR _ _ (.slice A4 LotM.zero.stmts.length c4) LotM.zero.stmts from hlt) (fun _ _ _ => trivial)).keepAll stK hA
    have hS := hS.trans hA
    clear ca0 ca1 ca2 ca3 ca4 ca5 cb0 cb1 cb2 cb3 cb4 cb5 cc0 cc1 cc2 cc3 cc4 cc5
    clear hlt hA hp aYp1 aYp2
    go_upto_region 12 with (fail)
    revert hrow hl1 hS
    generalize World.alloc wp _ = wq
    generalize wp.heap.size = g4
    intro hrow hl1 hS
    have HRA := Lib.hid (HRA.out.keep hS trivial)
    have HRB := Lib.hid (HRB.out.keep hS trivial)
    have HRC := Lib.hid (HRC.out.keep hS trivial)
    have HXA := Lib.hid (HXA.out.keepAll hS)
    have HXB := Lib.hid (HXB.out.keepAll hS)
    have HXC := Lib.hid (HXC.out.keepAll hS)
    have HE := Lib.hid (HE.out.keepAll hS)
    have HS := Lib.hid (HS.out.trans hS)
    have HR4 := Lib.hid hrow
    have HL4 := Lib.hid hl1
    clear hrow hl1 hS
    simp only [LotM.zero, List.length_nil] at *
    go_wp2
    go_ret
    exact ⟨rfl, HS.out⟩
  case pos =>
  have hpr := HPRa.out (by rw [← FYp2.out]; exact hlp)
  rw [← FYp2.out] at hpr
  have hp := parse_at Yp2 _ (by have := LYp2.out; have := LYp1.out; omega) HE.out.max
  rw [hpr] at hp
  clear hpr hlp
  go_wp2_with (go_at_call 10; refine stopAt ?_)
  unfold Hid
  refine (show Calls _ _ _ _ _ from hp).mono ?_
  rintro e wp ⟨up, rfl, hlt, hS⟩
  dsimp only at hlt
  obtain ⟨A4, c4, rfl, -, -⟩ := (show LsR stCsP 15 StR _ _ up (delL a).stmts from hlt).form
  have hA := (Same.refl (fun _ => True) wp).alloc (.cells #[.int .i64 (delL a).mode, .int .i64 (delL a).n, .slice A4 (delL a).stmts.length c4] 25)
  have hrow := Row.new wp 25 [.int .i64 (delL a).mode, .int .i64 (delL a).n, .slice A4 (delL a).stmts.length c4]
  have hl1 : LsR stCsP 15 StR (wp.alloc (.cells #[.int .i64 (delL a).mode, .int .i64 (delL a).n, .slice A4 (delL a).stmts.length c4] 25)) (fun _ => True) (.slice A4 (delL a).stmts.length c4) (delL a).stmts := (LsR.mono stK (by omega) (show LsR stCsP 15 StR _ _ (.slice A4 (delL a).stmts.length c4) (delL a).stmts from hlt) (fun _ _ _ => trivial)).keepAll stK hA
  have hS := hS.trans hA
  clear ca0 ca1 ca2 ca3 ca4 ca5 cb0 cb1 cb2 cb3 cb4 cb5 cc0 cc1 cc2 cc3 cc4 cc5
  clear hlt hA hp aYp1 aYp2
  go_upto_region 12 with (fail)
  revert hrow hl1 hS
  generalize World.alloc wp _ = wq
  generalize wp.heap.size = g4
  intro hrow hl1 hS
  have HRA := Lib.hid (HRA.out.keep hS trivial)
  have HRB := Lib.hid (HRB.out.keep hS trivial)
  have HRC := Lib.hid (HRC.out.keep hS trivial)
  have HXA := Lib.hid (HXA.out.keepAll hS)
  have HXB := Lib.hid (HXB.out.keepAll hS)
  have HXC := Lib.hid (HXC.out.keepAll hS)
  have HE := Lib.hid (HE.out.keepAll hS)
  have HS := Lib.hid (HS.out.trans hS)
  have HR4 := Lib.hid hrow
  have HL4 := Lib.hid hl1
  clear hrow hl1 hS
  have ca0 := HRA.out.cell 0
  have ca1 := HRA.out.cell 1
  have ca2 := HRA.out.cell 2
  have ca3 := HRA.out.cell 3
  have ca4 := HRA.out.cell 4
  have ca5 := HRA.out.cell 5
  simp only [List.getElem?_cons_zero, List.getElem?_cons_succ] at ca0 ca1 ca2 ca3 ca4 ca5
  have cb0 := HRB.out.cell 0
  have cb1 := HRB.out.cell 1
  have cb2 := HRB.out.cell 2
  have cb3 := HRB.out.cell 3
  have cb4 := HRB.out.cell 4
  have cb5 := HRB.out.cell 5
  simp only [List.getElem?_cons_zero, List.getElem?_cons_succ] at cb0 cb1 cb2 cb3 cb4 cb5
  have cc0 := HRC.out.cell 0
  have cc1 := HRC.out.cell 1
  have cc2 := HRC.out.cell 2
  have cc3 := HRC.out.cell 3
  have cc4 := HRC.out.cell 4
  have cc5 := HRC.out.cell 5
  simp only [List.getElem?_cons_zero, List.getElem?_cons_succ] at cc0 cc1 cc2 cc3 cc4 cc5
  go_wp2_with (go_at_call 13; refine stopAt ?_)
  unfold Hid
  refine (show Calls _ _ _ _ _ from refdeep_any a _ _ HXA.out (by omega)).mono ?_
  rintro e w2 ⟨rfl, hS⟩
  have HRA := Lib.hid (HRA.out.keep hS trivial)
  have HRB := Lib.hid (HRB.out.keep hS trivial)
  have HRC := Lib.hid (HRC.out.keep hS trivial)
  have HXA := Lib.hid (HXA.out.keepAll hS)
  have HXB := Lib.hid (HXB.out.keepAll hS)
  have HXC := Lib.hid (HXC.out.keepAll hS)
  have HE := Lib.hid (HE.out.keepAll hS)
  have HS := Lib.hid (HS.out.trans hS)
  have HR4 := Lib.hid (HR4.out.keep hS trivial)
  have HL4 := Lib.hid (HL4.out.keepAll stK hS)
  clear hS
  clear ca0 ca1 ca2 ca3 ca4 ca5 cb0 cb1 cb2 cb3 cb4 cb5 cc0 cc1 cc2 cc3 cc4 cc5
  have ca0 := HRA.out.cell 0
  have ca1 := HRA.out.cell 1
  have ca2 := HRA.out.cell 2
  have ca3 := HRA.out.cell 3
  have ca4 := HRA.out.cell 4
  have ca5 := HRA.out.cell 5
  simp only [List.getElem?_cons_zero, List.getElem?_cons_succ] at ca0 ca1 ca2 ca3 ca4 ca5
  have cb0 := HRB.out.cell 0
  have cb1 := HRB.out.cell 1
  have cb2 := HRB.out.cell 2
  have cb3 := HRB.out.cell 3
  have cb4 := HRB.out.cell 4
  have cb5 := HRB.out.cell 5
  simp only [List.getElem?_cons_zero, List.getElem?_cons_succ] at cb0 cb1 cb2 cb3 cb4 cb5
  have cc0 := HRC.out.cell 0
  have cc1 := HRC.out.cell 1
  have cc2 := HRC.out.cell 2
  have cc3 := HRC.out.cell 3
  have cc4 := HRC.out.cell 4
  have cc5 := HRC.out.cell 5
  simp only [List.getElem?_cons_zero, List.getElem?_cons_succ] at cc0 cc1 cc2 cc3 cc4 cc5
  by_cases hm : (12 : Int) < (a.deep : Int)
  · have e1 := decide_eq_true hm
    clear hm
    go_wp2
    go_ret
    exact ⟨rfl, HS.out⟩
  have eqa : decide ((12 : Int) < (a.deep : Int)) = false := decide_eq_false hm
  have dda : a.deep ≤ 12 := by omega
  clear hm dpa
  go_wp2_with (go_at_call 13; refine stopAt ?_)
  unfold Hid
  refine (show Calls _ _ _ _ _ from refdeep_any b _ _ HXB.out (by omega)).mono ?_
  rintro e w2 ⟨rfl, hS⟩
  have HRA := Lib.hid (HRA.out.keep hS trivial)
  have HRB := Lib.hid (HRB.out.keep hS trivial)
  have HRC := Lib.hid (HRC.out.keep hS trivial)
  have HXA := Lib.hid (HXA.out.keepAll hS)
  have HXB := Lib.hid (HXB.out.keepAll hS)
  have HXC := Lib.hid (HXC.out.keepAll hS)
  have HE := Lib.hid (HE.out.keepAll hS)
  have HS := Lib.hid (HS.out.trans hS)
  have HR4 := Lib.hid (HR4.out.keep hS trivial)
  have HL4 := Lib.hid (HL4.out.keepAll stK hS)
  clear hS
  clear ca0 ca1 ca2 ca3 ca4 ca5 cb0 cb1 cb2 cb3 cb4 cb5 cc0 cc1 cc2 cc3 cc4 cc5
  have ca0 := HRA.out.cell 0
  have ca1 := HRA.out.cell 1
  have ca2 := HRA.out.cell 2
  have ca3 := HRA.out.cell 3
  have ca4 := HRA.out.cell 4
  have ca5 := HRA.out.cell 5
  simp only [List.getElem?_cons_zero, List.getElem?_cons_succ] at ca0 ca1 ca2 ca3 ca4 ca5
  have cb0 := HRB.out.cell 0
  have cb1 := HRB.out.cell 1
  have cb2 := HRB.out.cell 2
  have cb3 := HRB.out.cell 3
  have cb4 := HRB.out.cell 4
  have cb5 := HRB.out.cell 5
  simp only [List.getElem?_cons_zero, List.getElem?_cons_succ] at cb0 cb1 cb2 cb3 cb4 cb5
  have cc0 := HRC.out.cell 0
  have cc1 := HRC.out.cell 1
  have cc2 := HRC.out.cell 2
  have cc3 := HRC.out.cell 3
  have cc4 := HRC.out.cell 4
  have cc5 := HRC.out.cell 5
  simp only [List.getElem?_cons_zero, List.getElem?_cons_succ] at cc0 cc1 cc2 cc3 cc4 cc5
  by_cases hm : (12 : Int) < (b.deep : Int)
  · have e1 := decide_eq_true hm
    clear hm
    go_wp2
    go_ret
    exact ⟨rfl, HS.out⟩
  have eqb : decide ((12 : Int) < (b.deep : Int)) = false := decide_eq_false hm
  have ddb : b.deep ≤ 12 := by omega
  clear hm dpb
  go_wp2_with (go_at_call 13; refine stopAt ?_)
  unfold Hid
  refine (show Calls _ _ _ _ _ from refdeep_any c _ _ HXC.out (by omega)).mono ?_
  rintro e w2 ⟨rfl, hS⟩
  have HRA := Lib.hid (HRA.out.keep hS trivial)
  have HRB := Lib.hid (HRB.out.keep hS trivial)
  have HRC := Lib.hid (HRC.out.keep hS trivial)
  have HXA := Lib.hid (HXA.out.keepAll hS)
  have HXB := Lib.hid (HXB.out.keepAll hS)
  have HXC := Lib.hid (HXC.out.keepAll hS)
  have HE := Lib.hid (HE.out.keepAll hS)
  have HS := Lib.hid (HS.out.trans hS)
  have HR4 := Lib.hid (HR4.out.keep hS trivial)
  have HL4 := Lib.hid (HL4.out.keepAll stK hS)
  clear hS
  clear ca0 ca1 ca2 ca3 ca4 ca5 cb0 cb1 cb2 cb3 cb4 cb5 cc0 cc1 cc2 cc3 cc4 cc5
  have ca0 := HRA.out.cell 0
  have ca1 := HRA.out.cell 1
  have ca2 := HRA.out.cell 2
  have ca3 := HRA.out.cell 3
  have ca4 := HRA.out.cell 4
  have ca5 := HRA.out.cell 5
  simp only [List.getElem?_cons_zero, List.getElem?_cons_succ] at ca0 ca1 ca2 ca3 ca4 ca5
  have cb0 := HRB.out.cell 0
  have cb1 := HRB.out.cell 1
  have cb2 := HRB.out.cell 2
  have cb3 := HRB.out.cell 3
  have cb4 := HRB.out.cell 4
  have cb5 := HRB.out.cell 5
  simp only [List.getElem?_cons_zero, List.getElem?_cons_succ] at cb0 cb1 cb2 cb3 cb4 cb5
  have cc0 := HRC.out.cell 0
  have cc1 := HRC.out.cell 1
  have cc2 := HRC.out.cell 2
  have cc3 := HRC.out.cell 3
  have cc4 := HRC.out.cell 4
  have cc5 := HRC.out.cell 5
  simp only [List.getElem?_cons_zero, List.getElem?_cons_succ] at cc0 cc1 cc2 cc3 cc4 cc5
  by_cases hm : (12 : Int) < (c.deep : Int)
  · have e1 := decide_eq_true hm
    clear hm
    go_wp2
    go_ret
    exact ⟨rfl, HS.out⟩
  have eqc : decide ((12 : Int) < (c.deep : Int)) = false := decide_eq_false hm
  have ddc : c.deep ≤ 12 := by omega
  clear hm dpc
  have HCH := Lib.hid (HCH.out dda ddb ddc)
  have HSM := Lib.hid (HSM.out dda ddb ddc)
  clear dda ddb ddc
  obtain ⟨Yq1, hYq1⟩ : ∃ y, y = [68, 69, 76, 69, 84, 69, 32, 70, 82, 79, 77, 32, 84, 32, 87, 72, 69, 82, 69, 32, 40] ++ pa := ⟨_, rfl⟩
  have lYq1 : Yq1.length = 21 + pa.length := by rw [hYq1, List.length_append]; rfl
  have aYq1 : ∀ w, (Op.stringOp .add ⟨#[68, 69, 76, 69, 84, 69, 32, 70, 82, 79, 77, 32, 84, 32, 87, 72, 69, 82, 69, 32, 40]⟩ (str pa)).run Tryz.prog w = .ok (.string (str Yq1)) w := fun w => hYq1 ▸ add_str ([68, 69, 76, 69, 84, 69, 32, 70, 82, 79, 77, 32, 84, 32, 87, 72, 69, 82, 69, 32, 40]) pa (by first | omega | (simp only [List.length_cons, List.length_nil]; omega)) w
  obtain ⟨Yq2, hYq2⟩ : ∃ y, y = Yq1 ++ [41, 32, 79, 82, 32, 40] := ⟨_, rfl⟩
  have lYq2 : Yq2.length = Yq1.length + 6 := by rw [hYq2, List.length_append]; rfl
  have aYq2 : ∀ w, (Op.stringOp .add (str Yq1) ⟨#[41, 32, 79, 82, 32, 40]⟩).run Tryz.prog w = .ok (.string (str Yq2)) w := fun w => hYq2 ▸ add_str Yq1 ([41, 32, 79, 82, 32, 40]) (by first | omega | (simp only [List.length_cons, List.length_nil]; omega)) w
  obtain ⟨Yq3, hYq3⟩ : ∃ y, y = Yq2 ++ pb := ⟨_, rfl⟩
  have lYq3 : Yq3.length = Yq2.length + pb.length := by rw [hYq3, List.length_append]
  have aYq3 : ∀ w, (Op.stringOp .add (str Yq2) (str pb)).run Tryz.prog w = .ok (.string (str Yq3)) w := fun w => hYq3 ▸ add_str Yq2 pb (by first | omega | (simp only [List.length_cons, List.length_nil]; omega)) w
  obtain ⟨Yq4, hYq4⟩ : ∃ y, y = Yq3 ++ [41, 32, 65, 78, 68, 32, 78, 79, 84, 32, 40] := ⟨_, rfl⟩
  have lYq4 : Yq4.length = Yq3.length + 11 := by rw [hYq4, List.length_append]; rfl
  have aYq4 : ∀ w, (Op.stringOp .add (str Yq3) ⟨#[41, 32, 65, 78, 68, 32, 78, 79, 84, 32, 40]⟩).run Tryz.prog w = .ok (.string (str Yq4)) w := fun w => hYq4 ▸ add_str Yq3 ([41, 32, 65, 78, 68, 32, 78, 79, 84, 32, 40]) (by first | omega | (simp only [List.length_cons, List.length_nil]; omega)) w
  obtain ⟨Yq5, hYq5⟩ : ∃ y, y = Yq4 ++ pc := ⟨_, rfl⟩
  have lYq5 : Yq5.length = Yq4.length + pc.length := by rw [hYq5, List.length_append]
  have aYq5 : ∀ w, (Op.stringOp .add (str Yq4) (str pc)).run Tryz.prog w = .ok (.string (str Yq5)) w := fun w => hYq5 ▸ add_str Yq4 pc (by first | omega | (simp only [List.length_cons, List.length_nil]; omega)) w
  obtain ⟨Yq6, hYq6⟩ : ∃ y, y = Yq5 ++ [41] := ⟨_, rfl⟩
  have lYq6 : Yq6.length = Yq5.length + 1 := by rw [hYq6, List.length_append]; rfl
  have aYq6 : ∀ w, (Op.stringOp .add (str Yq5) ⟨#[41]⟩).run Tryz.prog w = .ok (.string (str Yq6)) w := fun w => hYq6 ▸ add_str Yq5 ([41]) (by first | omega | (simp only [List.length_cons, List.length_nil]; omega)) w
  have fYq6 : Yq6 = chainBr pa pb pc := by rw [hYq6, hYq5, hYq4, hYq3, hYq2, hYq1]; simp [chainBr, headD]
  have LYq1 := Lib.hid lYq1
  have LYq2 := Lib.hid lYq2
  have LYq3 := Lib.hid lYq3
  have LYq4 := Lib.hid lYq4
  have LYq5 := Lib.hid lYq5
  have LYq6 := Lib.hid lYq6
  have FYq6 := Lib.hid fYq6
  clear fYq6 lYq1 lYq2 lYq3 lYq4 lYq5 lYq6 hYq6 hYq5 hYq4 hYq3 hYq2 hYq1
  have hp := parse_at Yq6 _ (by have := LYq6.out; have := LYq1.out; have := LYq2.out; have := LYq3.out; have := LYq4.out; have := LYq5.out; omega) HE.out.max
  have hpr : (parseF Yq6).2.2 = 3 ∨ parseF Yq6 = (delL (wantE a b c), 0, 0) := by
    by_cases hl : Yq6.length ≤ 2000
    · exact .inr (by rw [FYq6.out] at hl ⊢; exact HCH.out hl)
    · exact .inl (by rw [parse_long (by omega)])
  generalize parseF Yq6 = rr at *
  obtain ⟨L5, pl5, e5⟩ := rr
  dsimp only at hpr
  have HQHCH := Lib.hid hpr
  clear hpr
  go_wp2_with (go_at_call 10; refine stopAt ?_)
  unfold Hid
  refine (show Calls _ _ _ _ _ from hp).mono ?_
  rintro e wp ⟨up, rfl, hlt, hS⟩
  dsimp only at hlt
  obtain ⟨A5, c5, rfl, -, -⟩ := (show LsR stCsP 15 StR _ _ up L5.stmts from hlt).form
  have hA := (Same.refl (fun _ => True) wp).alloc (.cells #[.int .i64 L5.mode, .int .i64 L5.n, .slice A5 L5.stmts.length c5] 25)
  have hrow := Row.new wp 25 [.int .i64 L5.mode, .int .i64 L5.n, .slice A5 L5.stmts.length c5]
  have hl1 : LsR stCsP 15 StR (wp.alloc (.cells #[.int .i64 L5.mode, .int .i64 L5.n, .slice A5 L5.stmts.length c5] 25)) (fun _ => True) (.slice A5 L5.stmts.length c5) L5.stmts := (LsR.mono stK (by omega) (show LsR stCsP 15 StR _ _ (.slice A5 L5.stmts.length c5) L5.stmts from hlt) (fun _ _ _ => trivial)).keepAll stK hA
  have hS := hS.trans hA
  clear ca0 ca1 ca2 ca3 ca4 ca5 cb0 cb1 cb2 cb3 cb4 cb5 cc0 cc1 cc2 cc3 cc4 cc5
  clear hlt hA hp aYq1 aYq2 aYq3 aYq4 aYq5 aYq6
  go_upto_region 15 with (fail)
  revert hrow hl1 hS
  generalize World.alloc wp _ = wq
  generalize wp.heap.size = g5
  intro hrow hl1 hS
  have HRA := Lib.hid (HRA.out.keep hS trivial)
  have HRB := Lib.hid (HRB.out.keep hS trivial)
  have HRC := Lib.hid (HRC.out.keep hS trivial)
  have HXA := Lib.hid (HXA.out.keepAll hS)
  have HXB := Lib.hid (HXB.out.keepAll hS)
  have HXC := Lib.hid (HXC.out.keepAll hS)
  have HE := Lib.hid (HE.out.keepAll hS)
  have HS := Lib.hid (HS.out.trans hS)
  have HR4 := Lib.hid (HR4.out.keep hS trivial)
  have HL4 := Lib.hid (HL4.out.keepAll stK hS)
  have HR5 := Lib.hid hrow
  have HL5 := Lib.hid hl1
  clear hrow hl1 hS
  have ca0 := HRA.out.cell 0
  have ca1 := HRA.out.cell 1
  have ca2 := HRA.out.cell 2
  have ca3 := HRA.out.cell 3
  have ca4 := HRA.out.cell 4
  have ca5 := HRA.out.cell 5
  simp only [List.getElem?_cons_zero, List.getElem?_cons_succ] at ca0 ca1 ca2 ca3 ca4 ca5
  have cb0 := HRB.out.cell 0
  have cb1 := HRB.out.cell 1
  have cb2 := HRB.out.cell 2
  have cb3 := HRB.out.cell 3
  have cb4 := HRB.out.cell 4
  have cb5 := HRB.out.cell 5
  simp only [List.getElem?_cons_zero, List.getElem?_cons_succ] at cb0 cb1 cb2 cb3 cb4 cb5
  have cc0 := HRC.out.cell 0
  have cc1 := HRC.out.cell 1
  have cc2 := HRC.out.cell 2
  have cc3 := HRC.out.cell 3
  have cc4 := HRC.out.cell 4
  have cc5 := HRC.out.cell 5
  simp only [List.getElem?_cons_zero, List.getElem?_cons_succ] at cc0 cc1 cc2 cc3 cc4 cc5
  have k1 := ExL.fresh1 wq HXC.out
  have s1 : Same (fun _ => True) wq (World.alloc wq (.cells (exCs (.slice Ac c.args.length nc) c).toArray 34)) := (Same.refl _ _).alloc _
  have k2 := ExL.fresh2 (World.alloc wq (.cells (exCs (.slice Ac c.args.length nc) c).toArray 34)) (HXB.out.keepAll s1) (k1.toR 3 wNOT .zero)
  have s2 : Same (fun _ => True) wq (World.alloc (World.alloc wq (.cells (exCs (.slice Ac c.args.length nc) c).toArray 34)) (.cells (exCs (.slice Ab b.args.length nb) b ++ exCs (.slice (some ⟨wq.heap.size, 0, none⟩) 1 1) (.mk 3 wNOT .zero [c])).toArray 34)) := s1.alloc _
  have k3 := ExL.fresh2 (World.alloc (World.alloc wq (.cells (exCs (.slice Ac c.args.length nc) c).toArray 34)) (.cells (exCs (.slice Ab b.args.length nb) b ++ exCs (.slice (some ⟨wq.heap.size, 0, none⟩) 1 1) (.mk 3 wNOT .zero [c])).toArray 34)) (HXA.out.keepAll s2) (show ExR (World.alloc (World.alloc wq (.cells (exCs (.slice Ac c.args.length nc) c).toArray 34)) (.cells (exCs (.slice Ab b.args.length nb) b ++ exCs (.slice (some ⟨wq.heap.size, 0, none⟩) 1 1) (.mk 3 wNOT .zero [c])).toArray 34)) (fun _ => True) (.slice (some ⟨wq.heap.size + 1, 0, none⟩) 2 2) (.mk 3 wAND .zero [b, .mk 3 wNOT .zero [c]]) from by simp only [World.size_alloc] at k2; exact k2.toR 3 wAND .zero)
  have s3 : Same (fun _ => True) wq (World.alloc (World.alloc (World.alloc wq (.cells (exCs (.slice Ac c.args.length nc) c).toArray 34)) (.cells (exCs (.slice Ab b.args.length nb) b ++ exCs (.slice (some ⟨wq.heap.size, 0, none⟩) 1 1) (.mk 3 wNOT .zero [c])).toArray 34)) (.cells (exCs (.slice Aa a.args.length na) a ++ exCs (.slice (some ⟨wq.heap.size + 1, 0, none⟩) 2 2) (.mk 3 wAND .zero [b, .mk 3 wNOT .zero [c]])).toArray 34)) := s2.alloc _
  have sz : Same (fun _ => True) wq (World.alloc (World.alloc (World.alloc (World.alloc wq (.cells (exCs (.slice Ac c.args.length nc) c).toArray 34)) (.cells (exCs (.slice Ab b.args.length nb) b ++ exCs (.slice (some ⟨wq.heap.size, 0, none⟩) 1 1) (.mk 3 wNOT .zero [c])).toArray 34)) (.cells (exCs (.slice Aa a.args.length na) a ++ exCs (.slice (some ⟨wq.heap.size + 1, 0, none⟩) 2 2) (.mk 3 wAND .zero [b, .mk 3 wNOT .zero [c]])).toArray 34)) (.cells (exCs (.slice (some ⟨wq.heap.size + 1 + 1, 0, none⟩) 2 2) (wantE a b c)).toArray 34)) := s3.alloc _
  have rz := Row.new (World.alloc (World.alloc (World.alloc wq (.cells (exCs (.slice Ac c.args.length nc) c).toArray 34)) (.cells (exCs (.slice Ab b.args.length nb) b ++ exCs (.slice (some ⟨wq.heap.size, 0, none⟩) 1 1) (.mk 3 wNOT .zero [c])).toArray 34)) (.cells (exCs (.slice Aa a.args.length na) a ++ exCs (.slice (some ⟨wq.heap.size + 1, 0, none⟩) 2 2) (.mk 3 wAND .zero [b, .mk 3 wNOT .zero [c]])).toArray 34)) 34 (exCs (.slice (some ⟨wq.heap.size + 1 + 1, 0, none⟩) 2 2) (wantE a b c))
  simp only [World.size_alloc] at k3 rz
  have kz : ExR (World.alloc (World.alloc (World.alloc (World.alloc wq (.cells (exCs (.slice Ac c.args.length nc) c).toArray 34)) (.cells (exCs (.slice Ab b.args.length nb) b ++ exCs (.slice (some ⟨wq.heap.size, 0, none⟩) 1 1) (.mk 3 wNOT .zero [c])).toArray 34)) (.cells (exCs (.slice Aa a.args.length na) a ++ exCs (.slice (some ⟨wq.heap.size + 1, 0, none⟩) 2 2) (.mk 3 wAND .zero [b, .mk 3 wNOT .zero [c]])).toArray 34)) (.cells (exCs (.slice (some ⟨wq.heap.size + 1 + 1, 0, none⟩) 2 2) (wantE a b c)).toArray 34)) (fun _ => True) (.slice (some ⟨wq.heap.size + 1 + 1, 0, none⟩) 2 2) (wantE a b c) := (ExL.toR 3 wOR .zero k3).keepAll ((Same.refl _ _).alloc _)
  clear k1 k2 k3 s1 s2 s3
  go_upto_region 16 with (fail)
  generalize hW : World.alloc (World.alloc (World.alloc (World.alloc wq _) _) _) _ = wr
  have hS : Same (fun _ => True) wq wr := by rw [← hW]; exact sz
  have hrw : Row wr (wq.heap.size + 1 + 1 + 1) 34 (exCs (.slice (some ⟨wq.heap.size + 1 + 1, 0, none⟩) 2 2) (wantE a b c)) := by rw [← hW]; exact rz
  have hxw : ExR wr (fun _ => True) (.slice (some ⟨wq.heap.size + 1 + 1, 0, none⟩) 2 2) (wantE a b c) := by rw [← hW]; exact kz
  clear hW sz rz kz
  generalize wq.heap.size = sq at *
  have HRA := Lib.hid (HRA.out.keep hS trivial)
  have HRB := Lib.hid (HRB.out.keep hS trivial)
  have HRC := Lib.hid (HRC.out.keep hS trivial)
  have HXA := Lib.hid (HXA.out.keepAll hS)
  have HXB := Lib.hid (HXB.out.keepAll hS)
  have HXC := Lib.hid (HXC.out.keepAll hS)
  have HE := Lib.hid (HE.out.keepAll hS)
  have HS := Lib.hid (HS.out.trans hS)
  have HR4 := Lib.hid (HR4.out.keep hS trivial)
  have HL4 := Lib.hid (HL4.out.keepAll stK hS)
  have HR5 := Lib.hid (HR5.out.keep hS trivial)
  have HL5 := Lib.hid (HL5.out.keepAll stK hS)
  have HRW := Lib.hid hrw
  have HXW := Lib.hid hxw
  clear hS hrw hxw
  clear ca0 ca1 ca2 ca3 ca4 ca5 cb0 cb1 cb2 cb3 cb4 cb5 cc0 cc1 cc2 cc3 cc4 cc5
  have ca0 := HRA.out.cell 0
  have ca1 := HRA.out.cell 1
  have ca2 := HRA.out.cell 2
  have ca3 := HRA.out.cell 3
  have ca4 := HRA.out.cell 4
  have ca5 := HRA.out.cell 5
  simp only [List.getElem?_cons_zero, List.getElem?_cons_succ] at ca0 ca1 ca2 ca3 ca4 ca5
  have cb0 := HRB.out.cell 0
  have cb1 := HRB.out.cell 1
  have cb2 := HRB.out.cell 2
  have cb3 := HRB.out.cell 3
  have cb4 := HRB.out.cell 4
  have cb5 := HRB.out.cell 5
  simp only [List.getElem?_cons_zero, List.getElem?_cons_succ] at cb0 cb1 cb2 cb3 cb4 cb5
  have cc0 := HRC.out.cell 0
  have cc1 := HRC.out.cell 1
  have cc2 := HRC.out.cell 2
  have cc3 := HRC.out.cell 3
  have cc4 := HRC.out.cell 4
  have cc5 := HRC.out.cell 5
  simp only [List.getElem?_cons_zero, List.getElem?_cons_succ] at cc0 cc1 cc2 cc3 cc4 cc5
  generalize hgw : sq + 1 + 1 + 1 = gw at *
  clear hgw
  generalize hgv : sq + 1 + 1 = gv at *
  clear hgv
  obtain ⟨Ys1, hYs1⟩ : ∃ y, y = [68, 69, 76, 69, 84, 69, 32, 70, 82, 79, 77, 32, 84, 32, 87, 72, 69, 82, 69, 32, 40] ++ pa := ⟨_, rfl⟩
  have lYs1 : Ys1.length = 21 + pa.length := by rw [hYs1, List.length_append]; rfl
  have aYs1 : ∀ w, (Op.stringOp .add ⟨#[68, 69, 76, 69, 84, 69, 32, 70, 82, 79, 77, 32, 84, 32, 87, 72, 69, 82, 69, 32, 40]⟩ (str pa)).run Tryz.prog w = .ok (.string (str Ys1)) w := fun w => hYs1 ▸ add_str ([68, 69, 76, 69, 84, 69, 32, 70, 82, 79, 77, 32, 84, 32, 87, 72, 69, 82, 69, 32, 40]) pa (by first | omega | (simp only [List.length_cons, List.length_nil]; omega)) w
  obtain ⟨Ys2, hYs2⟩ : ∃ y, y = Ys1 ++ [41, 32, 45, 32, 40] := ⟨_, rfl⟩
  have lYs2 : Ys2.length = Ys1.length + 5 := by rw [hYs2, List.length_append]; rfl
  have aYs2 : ∀ w, (Op.stringOp .add (str Ys1) ⟨#[41, 32, 45, 32, 40]⟩).run Tryz.prog w = .ok (.string (str Ys2)) w := fun w => hYs2 ▸ add_str Ys1 ([41, 32, 45, 32, 40]) (by first | omega | (simp only [List.length_cons, List.length_nil]; omega)) w
  obtain ⟨Ys3, hYs3⟩ : ∃ y, y = Ys2 ++ pb := ⟨_, rfl⟩
  have lYs3 : Ys3.length = Ys2.length + pb.length := by rw [hYs3, List.length_append]
  have aYs3 : ∀ w, (Op.stringOp .add (str Ys2) (str pb)).run Tryz.prog w = .ok (.string (str Ys3)) w := fun w => hYs3 ▸ add_str Ys2 pb (by first | omega | (simp only [List.length_cons, List.length_nil]; omega)) w
  obtain ⟨Ys4, hYs4⟩ : ∃ y, y = Ys3 ++ [41, 32, 42, 32, 40] := ⟨_, rfl⟩
  have lYs4 : Ys4.length = Ys3.length + 5 := by rw [hYs4, List.length_append]; rfl
  have aYs4 : ∀ w, (Op.stringOp .add (str Ys3) ⟨#[41, 32, 42, 32, 40]⟩).run Tryz.prog w = .ok (.string (str Ys4)) w := fun w => hYs4 ▸ add_str Ys3 ([41, 32, 42, 32, 40]) (by first | omega | (simp only [List.length_cons, List.length_nil]; omega)) w
  obtain ⟨Ys5, hYs5⟩ : ∃ y, y = Ys4 ++ pc := ⟨_, rfl⟩
  have lYs5 : Ys5.length = Ys4.length + pc.length := by rw [hYs5, List.length_append]
  have aYs5 : ∀ w, (Op.stringOp .add (str Ys4) (str pc)).run Tryz.prog w = .ok (.string (str Ys5)) w := fun w => hYs5 ▸ add_str Ys4 pc (by first | omega | (simp only [List.length_cons, List.length_nil]; omega)) w
  obtain ⟨Ys6, hYs6⟩ : ∃ y, y = Ys5 ++ [41, 32, 61, 32, 45, 32, 40] := ⟨_, rfl⟩
  have lYs6 : Ys6.length = Ys5.length + 7 := by rw [hYs6, List.length_append]; rfl
  have aYs6 : ∀ w, (Op.stringOp .add (str Ys5) ⟨#[41, 32, 61, 32, 45, 32, 40]⟩).run Tryz.prog w = .ok (.string (str Ys6)) w := fun w => hYs6 ▸ add_str Ys5 ([41, 32, 61, 32, 45, 32, 40]) (by first | omega | (simp only [List.length_cons, List.length_nil]; omega)) w
  obtain ⟨Ys7, hYs7⟩ : ∃ y, y = Ys6 ++ pa := ⟨_, rfl⟩
  have lYs7 : Ys7.length = Ys6.length + pa.length := by rw [hYs7, List.length_append]
  have aYs7 : ∀ w, (Op.stringOp .add (str Ys6) (str pa)).run Tryz.prog w = .ok (.string (str Ys7)) w := fun w => hYs7 ▸ add_str Ys6 pa (by first | omega | (simp only [List.length_cons, List.length_nil]; omega)) w
  obtain ⟨Ys8, hYs8⟩ : ∃ y, y = Ys7 ++ [41] := ⟨_, rfl⟩
  have lYs8 : Ys8.length = Ys7.length + 1 := by rw [hYs8, List.length_append]; rfl
  have aYs8 : ∀ w, (Op.stringOp .add (str Ys7) ⟨#[41]⟩).run Tryz.prog w = .ok (.string (str Ys8)) w := fun w => hYs8 ▸ add_str Ys7 ([41]) (by first | omega | (simp only [List.length_cons, List.length_nil]; omega)) w
  have fYs8 : Ys8 = sumsBr pa pb pc := by rw [hYs8, hYs7, hYs6, hYs5, hYs4, hYs3, hYs2, hYs1]; simp [sumsBr, headD]
  have LYs1 := Lib.hid lYs1
  have LYs2 := Lib.hid lYs2
  have LYs3 := Lib.hid lYs3
  have LYs4 := Lib.hid lYs4
  have LYs5 := Lib.hid lYs5
  have LYs6 := Lib.hid lYs6
  have LYs7 := Lib.hid lYs7
  have LYs8 := Lib.hid lYs8
  have FYs8 := Lib.hid fYs8
  clear fYs8 lYs1 lYs2 lYs3 lYs4 lYs5 lYs6 lYs7 lYs8 hYs8 hYs7 hYs6 hYs5 hYs4 hYs3 hYs2 hYs1
  have hp := parse_at Ys8 _ (by have := LYs8.out; have := LYs1.out; have := LYs2.out; have := LYs3.out; have := LYs4.out; have := LYs5.out; have := LYs6.out; have := LYs7.out; omega) HE.out.max
  have hpr : (parseF Ys8).2.2 = 3 ∨ parseF Ys8 = (delL (lessE a b c), 0, 0) := by
    by_cases hl : Ys8.length ≤ 2000
    · exact .inr (by rw [FYs8.out] at hl ⊢; exact HSM.out hl)
    · exact .inl (by rw [parse_long (by omega)])
  generalize parseF Ys8 = rr at *
  obtain ⟨L6, pl6, e6⟩ := rr
  dsimp only at hpr
  have HQHSM := Lib.hid hpr
  clear hpr
  go_wp2_with (go_at_call 10; refine stopAt ?_)
  unfold Hid
  refine (show Calls _ _ _ _ _ from hp).mono ?_
  rintro e wp ⟨up, rfl, hlt, hS⟩
  dsimp only at hlt
  obtain ⟨A6, c6, rfl, -, -⟩ := (show LsR stCsP 15 StR _ _ up L6.stmts from hlt).form
  have hA := (Same.refl (fun _ => True) wp).alloc (.cells #[.int .i64 L6.mode, .int .i64 L6.n, .slice A6 L6.stmts.length c6] 25)
  have hrow := Row.new wp 25 [.int .i64 L6.mode, .int .i64 L6.n, .slice A6 L6.stmts.length c6]
  have hl1 : LsR stCsP 15 StR (wp.alloc (.cells #[.int .i64 L6.mode, .int .i64 L6.n, .slice A6 L6.stmts.length c6] 25)) (fun _ => True) (.slice A6 L6.stmts.length c6) L6.stmts := (LsR.mono stK (by omega) (show LsR stCsP 15 StR _ _ (.slice A6 L6.stmts.length c6) L6.stmts from hlt) (fun _ _ _ => trivial)).keepAll stK hA
  have hS := hS.trans hA
  clear ca0 ca1 ca2 ca3 ca4 ca5 cb0 cb1 cb2 cb3 cb4 cb5 cc0 cc1 cc2 cc3 cc4 cc5
  clear hlt hA hp aYs1 aYs2 aYs3 aYs4 aYs5 aYs6 aYs7 aYs8
  go_upto_region 17 with (fail)
  revert hrow hl1 hS
  generalize World.alloc wp _ = wq
  generalize wp.heap.size = g6
  intro hrow hl1 hS
  have HRA := Lib.hid (HRA.out.keep hS trivial)
  have HRB := Lib.hid (HRB.out.keep hS trivial)
  have HRC := Lib.hid (HRC.out.keep hS trivial)
  have HXA := Lib.hid (HXA.out.keepAll hS)
  have HXB := Lib.hid (HXB.out.keepAll hS)
  have HXC := Lib.hid (HXC.out.keepAll hS)
  have HE := Lib.hid (HE.out.keepAll hS)
  have HS := Lib.hid (HS.out.trans hS)
  have HR4 := Lib.hid (HR4.out.keep hS trivial)
  have HL4 := Lib.hid (HL4.out.keepAll stK hS)
  have HR5 := Lib.hid (HR5.out.keep hS trivial)
  have HL5 := Lib.hid (HL5.out.keepAll stK hS)
  have HRW := Lib.hid (HRW.out.keep hS trivial)
  have HXW := Lib.hid (HXW.out.keepAll hS)
  have HR6 := Lib.hid hrow
  have HL6 := Lib.hid hl1
  clear hrow hl1 hS
  have ca0 := HRA.out.cell 0
  have ca1 := HRA.out.cell 1
  have ca2 := HRA.out.cell 2
  have ca3 := HRA.out.cell 3
  have ca4 := HRA.out.cell 4
  have ca5 := HRA.out.cell 5
  simp only [List.getElem?_cons_zero, List.getElem?_cons_succ] at ca0 ca1 ca2 ca3 ca4 ca5
  have cb0 := HRB.out.cell 0
  have cb1 := HRB.out.cell 1
  have cb2 := HRB.out.cell 2
  have cb3 := HRB.out.cell 3
  have cb4 := HRB.out.cell 4
  have cb5 := HRB.out.cell 5
  simp only [List.getElem?_cons_zero, List.getElem?_cons_succ] at cb0 cb1 cb2 cb3 cb4 cb5
  have cc0 := HRC.out.cell 0
  have cc1 := HRC.out.cell 1
  have cc2 := HRC.out.cell 2
  have cc3 := HRC.out.cell 3
  have cc4 := HRC.out.cell 4
  have cc5 := HRC.out.cell 5
  simp only [List.getElem?_cons_zero, List.getElem?_cons_succ] at cc0 cc1 cc2 cc3 cc4 cc5
  have k1 := ExL.fresh2 wq HXB.out HXC.out
  have s1 : Same (fun _ => True) wq (World.alloc wq (.cells (exCs (.slice Ab b.args.length nb) b ++ exCs (.slice Ac c.args.length nc) c).toArray 34)) := (Same.refl _ _).alloc _
  have k2 := ExL.fresh2 (World.alloc wq (.cells (exCs (.slice Ab b.args.length nb) b ++ exCs (.slice Ac c.args.length nc) c).toArray 34)) (HXA.out.keepAll s1) (k1.toR 3 [42] .zero)
  have s2 : Same (fun _ => True) wq (World.alloc (World.alloc wq (.cells (exCs (.slice Ab b.args.length nb) b ++ exCs (.slice Ac c.args.length nc) c).toArray 34)) (.cells (exCs (.slice Aa a.args.length na) a ++ exCs (.slice (some ⟨wq.heap.size, 0, none⟩) 2 2) (.mk 3 [42] .zero [b, c])).toArray 34)) := s1.alloc _
  have k3 := ExL.fresh1 (World.alloc (World.alloc wq (.cells (exCs (.slice Ab b.args.length nb) b ++ exCs (.slice Ac c.args.length nc) c).toArray 34)) (.cells (exCs (.slice Aa a.args.length na) a ++ exCs (.slice (some ⟨wq.heap.size, 0, none⟩) 2 2) (.mk 3 [42] .zero [b, c])).toArray 34)) (HXA.out.keepAll s2)
  have s3 : Same (fun _ => True) wq (World.alloc (World.alloc (World.alloc wq (.cells (exCs (.slice Ab b.args.length nb) b ++ exCs (.slice Ac c.args.length nc) c).toArray 34)) (.cells (exCs (.slice Aa a.args.length na) a ++ exCs (.slice (some ⟨wq.heap.size, 0, none⟩) 2 2) (.mk 3 [42] .zero [b, c])).toArray 34)) (.cells (exCs (.slice Aa a.args.length na) a).toArray 34)) := s2.alloc _
  simp only [World.size_alloc] at k2 k3
  have k4 := ExL.fresh2 (World.alloc (World.alloc (World.alloc wq (.cells (exCs (.slice Ab b.args.length nb) b ++ exCs (.slice Ac c.args.length nc) c).toArray 34)) (.cells (exCs (.slice Aa a.args.length na) a ++ exCs (.slice (some ⟨wq.heap.size, 0, none⟩) 2 2) (.mk 3 [42] .zero [b, c])).toArray 34)) (.cells (exCs (.slice Aa a.args.length na) a).toArray 34)) (show ExR (World.alloc (World.alloc (World.alloc wq (.cells (exCs (.slice Ab b.args.length nb) b ++ exCs (.slice Ac c.args.length nc) c).toArray 34)) (.cells (exCs (.slice Aa a.args.length na) a ++ exCs (.slice (some ⟨wq.heap.size, 0, none⟩) 2 2) (.mk 3 [42] .zero [b, c])).toArray 34)) (.cells (exCs (.slice Aa a.args.length na) a).toArray 34)) (fun _ => True) (.slice (some ⟨wq.heap.size + 1, 0, none⟩) 2 2) (.mk 3 [45] .zero [a, .mk 3 [42] .zero [b, c]]) from (ExL.toR 3 [45] .zero k2).keepAll ((Same.refl _ _).alloc _)) (show ExR (World.alloc (World.alloc (World.alloc wq (.cells (exCs (.slice Ab b.args.length nb) b ++ exCs (.slice Ac c.args.length nc) c).toArray 34)) (.cells (exCs (.slice Aa a.args.length na) a ++ exCs (.slice (some ⟨wq.heap.size, 0, none⟩) 2 2) (.mk 3 [42] .zero [b, c])).toArray 34)) (.cells (exCs (.slice Aa a.args.length na) a).toArray 34)) (fun _ => True) (.slice (some ⟨wq.heap.size + 1 + 1, 0, none⟩) 1 1) (.mk 3 wNEG .zero [a]) from ExL.toR 3 wNEG .zero k3)
  have s4 : Same (fun _ => True) wq (World.alloc (World.alloc (World.alloc (World.alloc wq (.cells (exCs (.slice Ab b.args.length nb) b ++ exCs (.slice Ac c.args.length nc) c).toArray 34)) (.cells (exCs (.slice Aa a.args.length na) a ++ exCs (.slice (some ⟨wq.heap.size, 0, none⟩) 2 2) (.mk 3 [42] .zero [b, c])).toArray 34)) (.cells (exCs (.slice Aa a.args.length na) a).toArray 34)) (.cells (exCs (.slice (some ⟨wq.heap.size + 1, 0, none⟩) 2 2) (.mk 3 [45] .zero [a, .mk 3 [42] .zero [b, c]]) ++ exCs (.slice (some ⟨wq.heap.size + 1 + 1, 0, none⟩) 1 1) (.mk 3 wNEG .zero [a])).toArray 34)) := s3.alloc _
  have sz : Same (fun _ => True) wq (World.alloc (World.alloc (World.alloc (World.alloc (World.alloc wq (.cells (exCs (.slice Ab b.args.length nb) b ++ exCs (.slice Ac c.args.length nc) c).toArray 34)) (.cells (exCs (.slice Aa a.args.length na) a ++ exCs (.slice (some ⟨wq.heap.size, 0, none⟩) 2 2) (.mk 3 [42] .zero [b, c])).toArray 34)) (.cells (exCs (.slice Aa a.args.length na) a).toArray 34)) (.cells (exCs (.slice (some ⟨wq.heap.size + 1, 0, none⟩) 2 2) (.mk 3 [45] .zero [a, .mk 3 [42] .zero [b, c]]) ++ exCs (.slice (some ⟨wq.heap.size + 1 + 1, 0, none⟩) 1 1) (.mk 3 wNEG .zero [a])).toArray 34)) (.cells (exCs (.slice (some ⟨wq.heap.size + 1 + 1 + 1, 0, none⟩) 2 2) (lessE a b c)).toArray 34)) := s4.alloc _
  have rz := Row.new (World.alloc (World.alloc (World.alloc (World.alloc wq (.cells (exCs (.slice Ab b.args.length nb) b ++ exCs (.slice Ac c.args.length nc) c).toArray 34)) (.cells (exCs (.slice Aa a.args.length na) a ++ exCs (.slice (some ⟨wq.heap.size, 0, none⟩) 2 2) (.mk 3 [42] .zero [b, c])).toArray 34)) (.cells (exCs (.slice Aa a.args.length na) a).toArray 34)) (.cells (exCs (.slice (some ⟨wq.heap.size + 1, 0, none⟩) 2 2) (.mk 3 [45] .zero [a, .mk 3 [42] .zero [b, c]]) ++ exCs (.slice (some ⟨wq.heap.size + 1 + 1, 0, none⟩) 1 1) (.mk 3 wNEG .zero [a])).toArray 34)) 34 (exCs (.slice (some ⟨wq.heap.size + 1 + 1 + 1, 0, none⟩) 2 2) (lessE a b c))
  simp only [World.size_alloc] at k4 rz
  have kz : ExR (World.alloc (World.alloc (World.alloc (World.alloc (World.alloc wq (.cells (exCs (.slice Ab b.args.length nb) b ++ exCs (.slice Ac c.args.length nc) c).toArray 34)) (.cells (exCs (.slice Aa a.args.length na) a ++ exCs (.slice (some ⟨wq.heap.size, 0, none⟩) 2 2) (.mk 3 [42] .zero [b, c])).toArray 34)) (.cells (exCs (.slice Aa a.args.length na) a).toArray 34)) (.cells (exCs (.slice (some ⟨wq.heap.size + 1, 0, none⟩) 2 2) (.mk 3 [45] .zero [a, .mk 3 [42] .zero [b, c]]) ++ exCs (.slice (some ⟨wq.heap.size + 1 + 1, 0, none⟩) 1 1) (.mk 3 wNEG .zero [a])).toArray 34)) (.cells (exCs (.slice (some ⟨wq.heap.size + 1 + 1 + 1, 0, none⟩) 2 2) (lessE a b c)).toArray 34)) (fun _ => True) (.slice (some ⟨wq.heap.size + 1 + 1 + 1, 0, none⟩) 2 2) (lessE a b c) := (ExL.toR 3 [61] .zero k4).keepAll ((Same.refl _ _).alloc _)
  clear k1 k2 k3 k4 s1 s2 s3 s4
  have gl1 : g < wq.heap.size := HRA.out.lt
  go_upto_region 18 with (fail)
  generalize hW : World.alloc (World.alloc (World.alloc (World.alloc (World.alloc wq _) _) _) _) _ = wr
  have hS : Same (fun _ => True) wq wr := by rw [← hW]; exact sz
  have hrw : Row wr (wq.heap.size + 1 + 1 + 1 + 1) 34 (exCs (.slice (some ⟨wq.heap.size + 1 + 1 + 1, 0, none⟩) 2 2) (lessE a b c)) := by rw [← hW]; exact rz
  have hxw : ExR wr (fun _ => True) (.slice (some ⟨wq.heap.size + 1 + 1 + 1, 0, none⟩) 2 2) (lessE a b c) := by rw [← hW]; exact kz
  clear hW sz rz kz
  generalize wq.heap.size = sq at *
  have HRA := Lib.hid (HRA.out.keep hS trivial)
  have HRB := Lib.hid (HRB.out.keep hS trivial)
  have HRC := Lib.hid (HRC.out.keep hS trivial)
  have HXA := Lib.hid (HXA.out.keepAll hS)
  have HXB := Lib.hid (HXB.out.keepAll hS)
  have HXC := Lib.hid (HXC.out.keepAll hS)
  have HE := Lib.hid (HE.out.keepAll hS)
  have HS := Lib.hid (HS.out.trans hS)
  have HR4 := Lib.hid (HR4.out.keep hS trivial)
  have HL4 := Lib.hid (HL4.out.keepAll stK hS)
  have HR5 := Lib.hid (HR5.out.keep hS trivial)
  have HL5 := Lib.hid (HL5.out.keepAll stK hS)
  have HRW := Lib.hid (HRW.out.keep hS trivial)
  have HXW := Lib.hid (HXW.out.keepAll hS)
  have HR6 := Lib.hid (HR6.out.keep hS trivial)
  have HL6 := Lib.hid (HL6.out.keepAll stK hS)
  have HRL := Lib.hid hrw
  have HXL := Lib.hid hxw
  clear hS hrw hxw
  clear ca0 ca1 ca2 ca3 ca4 ca5 cb0 cb1 cb2 cb3 cb4 cb5 cc0 cc1 cc2 cc3 cc4 cc5
  have ca0 := HRA.out.cell 0
  have ca1 := HRA.out.cell 1
  have ca2 := HRA.out.cell 2
  have ca3 := HRA.out.cell 3
  have ca4 := HRA.out.cell 4
  have ca5 := HRA.out.cell 5
  simp only [List.getElem?_cons_zero, List.getElem?_cons_succ] at ca0 ca1 ca2 ca3 ca4 ca5
  have cb0 := HRB.out.cell 0
  have cb1 := HRB.out.cell 1
  have cb2 := HRB.out.cell 2
  have cb3 := HRB.out.cell 3
  have cb4 := HRB.out.cell 4
  have cb5 := HRB.out.cell 5
  simp only [List.getElem?_cons_zero, List.getElem?_cons_succ] at cb0 cb1 cb2 cb3 cb4 cb5
  have cc0 := HRC.out.cell 0
  have cc1 := HRC.out.cell 1
  have cc2 := HRC.out.cell 2
  have cc3 := HRC.out.cell 3
  have cc4 := HRC.out.cell 4
  have cc5 := HRC.out.cell 5
  simp only [List.getElem?_cons_zero, List.getElem?_cons_succ] at cc0 cc1 cc2 cc3 cc4 cc5
  generalize hgl : sq + 1 + 1 + 1 + 1 = gl at *
  clear hgl
  generalize hgu : sq + 1 + 1 + 1 = gu at *
  clear hgu
  have hq := HQHCH.out
  clear HQHCH
  rcases hq with h5 | h5
  · subst h5
    go_wp2
    go_ret
    exact ⟨rfl, HS.out⟩
  have h6 := (Prod.mk.inj h5).1
  have h7 := Prod.mk.inj (Prod.mk.inj h5).2
  clear h5
  subst h6
  obtain ⟨rfl, rfl⟩ := h7
  have hq := HQHSM.out
  clear HQHSM
  rcases hq with h5 | h5
  · subst h5
    go_wp2
    go_ret
    exact ⟨rfl, HS.out⟩
  have h6 := (Prod.mk.inj h5).1
  have h7 := Prod.mk.inj (Prod.mk.inj h5).2
  clear h5
  subst h6
  obtain ⟨rfl, rfl⟩ := h7
  go_upto_region 20 with (fail)
  obtain ⟨ad4, u4, rfl, hok, hcl⟩ := LsR.at_ (i := 0) HL4.out stCsP_len (show 0 < (delL a).stmts.length from Nat.zero_lt_one)
  obtain ⟨ui4, ur4, us4, uc4⟩ := u4
  obtain ⟨B4, n4, q1, -, -⟩ := (show ExR _ _ uc4 a from hok.2.2.2).toL.form
  subst q1
  have HX4 := Lib.hid (show ExR _ _ _ a from hok.2.2.2)
  have hcl : ∀ j, j < 15 → _ = (stCsP (⟨ui4, ur4, us4, _⟩, delS a))[j]? := hcl
  have d6 := hcl 6 (by omega)
  rw [Nat.zero_mul, add_zero, addr_add _ _ (by omega)] at d6
  have d7 := hcl 7 (by omega)
  rw [Nat.zero_mul, add_zero, addr_add _ _ (by omega)] at d7
  have d8 := hcl 8 (by omega)
  rw [Nat.zero_mul, add_zero, addr_add _ _ (by omega)] at d8
  have d9 := hcl 9 (by omega)
  rw [Nat.zero_mul, add_zero, addr_add _ _ (by omega)] at d9
  have d10 := hcl 10 (by omega)
  rw [Nat.zero_mul, add_zero, addr_add _ _ (by omega)] at d10
  have d11 := hcl 11 (by omega)
  rw [Nat.zero_mul, add_zero, addr_add _ _ (by omega)] at d11
  simp only [Nat.zero_mul, add_zero, stCsP, stCs, List.getElem?_cons_zero, List.getElem?_cons_succ] at d6 d7 d8 d9 d10 d11
  clear hok hcl
  have x4 := HR4.out.cell 2
  simp only [List.getElem?_cons_zero, List.getElem?_cons_succ] at x4
  obtain ⟨ad5, u5, rfl, hok, hcl⟩ := LsR.at_ (i := 0) HL5.out stCsP_len (show 0 < (delL (wantE a b c)).stmts.length from Nat.zero_lt_one)
  obtain ⟨ui5, ur5, us5, uc5⟩ := u5
  obtain ⟨B5, n5, q1, -, -⟩ := (show ExR _ _ uc5 (wantE a b c) from hok.2.2.2).toL.form
  subst q1
  have HX5 := Lib.hid (show ExR _ _ _ (wantE a b c) from hok.2.2.2)
  have hcl : ∀ j, j < 15 → _ = (stCsP (⟨ui5, ur5, us5, _⟩, delS (wantE a b c)))[j]? := hcl
  have t6 := hcl 6 (by omega)
  rw [Nat.zero_mul, add_zero, addr_add _ _ (by omega)] at t6
  have t7 := hcl 7 (by omega)
  rw [Nat.zero_mul, add_zero, addr_add _ _ (by omega)] at t7
  have t8 := hcl 8 (by omega)
  rw [Nat.zero_mul, add_zero, addr_add _ _ (by omega)] at t8
  have t9 := hcl 9 (by omega)
  rw [Nat.zero_mul, add_zero, addr_add _ _ (by omega)] at t9
  have t10 := hcl 10 (by omega)
  rw [Nat.zero_mul, add_zero, addr_add _ _ (by omega)] at t10
  have t11 := hcl 11 (by omega)
  rw [Nat.zero_mul, add_zero, addr_add _ _ (by omega)] at t11
  simp only [Nat.zero_mul, add_zero, stCsP, stCs, List.getElem?_cons_zero, List.getElem?_cons_succ] at t6 t7 t8 t9 t10 t11
  clear hok hcl
  have x5 := HR5.out.cell 2
  simp only [List.getElem?_cons_zero, List.getElem?_cons_succ] at x5
  obtain ⟨ad6, u6, rfl, hok, hcl⟩ := LsR.at_ (i := 0) HL6.out stCsP_len (show 0 < (delL (lessE a b c)).stmts.length from Nat.zero_lt_one)
  obtain ⟨ui6, ur6, us6, uc6⟩ := u6
  obtain ⟨B6, n6, q1, -, -⟩ := (show ExR _ _ uc6 (lessE a b c) from hok.2.2.2).toL.form
  subst q1
  have HX6 := Lib.hid (show ExR _ _ _ (lessE a b c) from hok.2.2.2)
  have hcl : ∀ j, j < 15 → _ = (stCsP (⟨ui6, ur6, us6, _⟩, delS (lessE a b c)))[j]? := hcl
  have z6 := hcl 6 (by omega)
  rw [Nat.zero_mul, add_zero, addr_add _ _ (by omega)] at z6
  have z7 := hcl 7 (by omega)
  rw [Nat.zero_mul, add_zero, addr_add _ _ (by omega)] at z7
  have z8 := hcl 8 (by omega)
  rw [Nat.zero_mul, add_zero, addr_add _ _ (by omega)] at z8
  have z9 := hcl 9 (by omega)
  rw [Nat.zero_mul, add_zero, addr_add _ _ (by omega)] at z9
  have z10 := hcl 10 (by omega)
  rw [Nat.zero_mul, add_zero, addr_add _ _ (by omega)] at z10
  have z11 := hcl 11 (by omega)
  rw [Nat.zero_mul, add_zero, addr_add _ _ (by omega)] at z11
  simp only [Nat.zero_mul, add_zero, stCsP, stCs, List.getElem?_cons_zero, List.getElem?_cons_succ] at z6 z7 z8 z9 z10 z11
  clear hok hcl
  have x6 := HR6.out.cell 2
  simp only [List.getElem?_cons_zero, List.getElem?_cons_succ] at x6
  have v0 := HRW.out.cell 0
  have v1 := HRW.out.cell 1
  have v2 := HRW.out.cell 2
  have v3 := HRW.out.cell 3
  have v4 := HRW.out.cell 4
  have v5 := HRW.out.cell 5
  simp only [exCs, List.getElem?_cons_zero, List.getElem?_cons_succ] at v0 v1 v2 v3 v4 v5
  have y0 := HRL.out.cell 0
  have y1 := HRL.out.cell 1
  have y2 := HRL.out.cell 2
  have y3 := HRL.out.cell 3
  have y4 := HRL.out.cell 4
  have y5 := HRL.out.cell 5
  simp only [exCs, List.getElem?_cons_zero, List.getElem?_cons_succ] at y0 y1 y2 y3 y4 y5
  have d6 : wr.cell? ⟨ad4.block, ad4.off + 6, none⟩ = some (.int .i64 a.kind) := d6
  have d7 : wr.cell? ⟨ad4.block, ad4.off + 7, none⟩ = some (.string (str a.s)) := d7
  have d8 : wr.cell? ⟨ad4.block, ad4.off + 8, none⟩ = some (.int .i64 a.v.kind) := d8
  have d9 : wr.cell? ⟨ad4.block, ad4.off + 9, none⟩ = some (.int .i64 a.v.n) := d9
  have d10 : wr.cell? ⟨ad4.block, ad4.off + 10, none⟩ = some (.string (str a.v.s)) := d10
  have d11 : wr.cell? ⟨ad4.block, ad4.off + 11, none⟩ = some (.slice B4 a.args.length n4) := d11
  have x4 : wr.cell? ⟨g4, 2, none⟩ = some (.slice (some ad4) 1 c4) := x4
  have HX4 := Lib.hid (show ExR wr (fun _ => True) (.slice B4 a.args.length n4) a from HX4.out)
  have t6 : wr.cell? ⟨ad5.block, ad5.off + 6, none⟩ = some (.int .i64 (wantE a b c).kind) := t6
  have t7 : wr.cell? ⟨ad5.block, ad5.off + 7, none⟩ = some (.string (str (wantE a b c).s)) := t7
  have t8 : wr.cell? ⟨ad5.block, ad5.off + 8, none⟩ = some (.int .i64 (wantE a b c).v.kind) := t8
  have t9 : wr.cell? ⟨ad5.block, ad5.off + 9, none⟩ = some (.int .i64 (wantE a b c).v.n) := t9
  have t10 : wr.cell? ⟨ad5.block, ad5.off + 10, none⟩ = some (.string (str (wantE a b c).v.s)) := t10
  have t11 : wr.cell? ⟨ad5.block, ad5.off + 11, none⟩ = some (.slice B5 (wantE a b c).args.length n5) := t11
  have x5 : wr.cell? ⟨g5, 2, none⟩ = some (.slice (some ad5) 1 c5) := x5
  have HX5 := Lib.hid (show ExR wr (fun _ => True) (.slice B5 (wantE a b c).args.length n5) (wantE a b c) from HX5.out)
  have z6 : wr.cell? ⟨ad6.block, ad6.off + 6, none⟩ = some (.int .i64 (lessE a b c).kind) := z6
  have z7 : wr.cell? ⟨ad6.block, ad6.off + 7, none⟩ = some (.string (str (lessE a b c).s)) := z7
  have z8 : wr.cell? ⟨ad6.block, ad6.off + 8, none⟩ = some (.int .i64 (lessE a b c).v.kind) := z8
  have z9 : wr.cell? ⟨ad6.block, ad6.off + 9, none⟩ = some (.int .i64 (lessE a b c).v.n) := z9
  have z10 : wr.cell? ⟨ad6.block, ad6.off + 10, none⟩ = some (.string (str (lessE a b c).v.s)) := z10
  have z11 : wr.cell? ⟨ad6.block, ad6.off + 11, none⟩ = some (.slice B6 (lessE a b c).args.length n6) := z11
  have x6 : wr.cell? ⟨g6, 2, none⟩ = some (.slice (some ad6) 1 c6) := x6
  have HX6 := Lib.hid (show ExR wr (fun _ => True) (.slice B6 (lessE a b c).args.length n6) (lessE a b c) from HX6.out)
  clear HR4 HR5 HR6 HL4 HL5 HL6 HRW HRL HRA HRB HRC
  generalize wantE a b c = ew at *
  generalize lessE a b c = el at *
  refine wp_region_eq_lit (vs := [(.int .i64 0), (.bool true), (.bool true), (.int .i64 0), (.bool true), (.bool true), (.bool true), (.int .i64 0), (.bool true), (.bool true), (.bool true), (.pointer (some ⟨g4, 2, none⟩)), (.slice (some ad4) 1 c4), (.pointer (some ad4)), (.pointer (some ⟨ad4.block, ad4.off + 6, none⟩)), (.agg #[.int .i64 a.kind, .string (str a.s), .int .i64 a.v.kind, .int .i64 a.v.n, .string (str a.v.s), .slice B4 a.args.length n4]), (.agg #[.int .i64 a.kind, .string (str a.s), .int .i64 a.v.kind, .int .i64 a.v.n, .string (str a.v.s), .slice Aa a.args.length na]), (.bool true), (.bool true), (.bool true), (.pointer (some ⟨g5, 2, none⟩)), (.slice (some ad5) 1 c5), (.pointer (some ad5)), (.pointer (some ⟨ad5.block, ad5.off + 6, none⟩)), (.agg #[.int .i64 ew.kind, .string (str ew.s), .int .i64 ew.v.kind, .int .i64 ew.v.n, .string (str ew.v.s), .slice B5 ew.args.length n5]), (.agg #[.int .i64 ew.kind, .string (str ew.s), .int .i64 ew.v.kind, .int .i64 ew.v.n, .string (str ew.v.s), .slice (some ⟨gv, 0, none⟩) 2 2]), (.bool true), (.bool true), (.bool true), (.pointer (some ⟨g6, 2, none⟩)), (.slice (some ad6) 1 c6), (.pointer (some ad6)), (.pointer (some ⟨ad6.block, ad6.off + 6, none⟩)), (.agg #[.int .i64 el.kind, .string (str el.s), .int .i64 el.v.kind, .int .i64 el.v.n, .string (str el.v.s), .slice B6 el.args.length n6]), (.agg #[.int .i64 el.kind, .string (str el.s), .int .i64 el.v.kind, .int .i64 el.v.n, .string (str el.v.s), .slice (some ⟨gu, 0, none⟩) 2 2]), (.bool true), (.bool true), (.bool true)]) (by kernel_rfl) (by kernel_rfl) rfl rfl ?_ ?_
  · refine ⟨?_, ?_, ?_, ?_, ?_, ?_, ?_, ?_, ?_, ?_, ?_, ?_, ?_, ?_, ?_, ?_, ?_, ?_, ?_, ?_, ?_, ?_, ?_, ?_, ?_, ?_, ?_, ?_, ?_, ?_, ?_, ?_, ?_, ?_, ?_, ?_, ?_, ?_, trivial⟩
    · intro ac wc hs hd hz hf hw K hK
      have e0 : ac.eval (.tmp 18) = (.int .i64 0) := hf 18 rfl
      clear hd hz hf hw
      simp only [Region.wanted, if_true, Oper.wp, execOp, resolve, List.map_toArray, List.map_cons, List.map_nil, Option.map_some, Option.map_none, e0]
      go_simp
      exact hK _ _ rfl (Same.refl _ _)
    · intro ac wc hs hd hz hf hw K hK
      have e0 : ac.eval (.tmp 171) = (.int .i64 0) := hw 0 rfl
      clear hd hz hf hw
      simp only [Region.wanted, if_true, Oper.wp, execOp, resolve, List.map_toArray, List.map_cons, List.map_nil, Option.map_some, Option.map_none, e0]
      go_simp
      exact hK _ _ rfl (Same.refl _ _)
    · intro ac wc hs hd hz hf hw K hK
      have e0 : ac.eval (.tmp 172) = (.bool true) := hw 1 rfl
      clear hd hz hf hw
      simp only [Region.wanted, if_true, Oper.wp, execOp, resolve, List.map_toArray, List.map_cons, List.map_nil, Option.map_some, Option.map_none, e0]
      go_simp
      exact hK _ _ rfl (Same.refl _ _)
    · intro ac wc hs hd hz hf hw K hK
      have eg : ac.eval (.tmp 173) = .bool true := hw 2 rfl
      refine run_wanted (j := 2) (d := 173) (b := true) rfl rfl hz (of_decide_eq_true rfl) eg ?_
      clear eg
      have e0 : ac.eval (.tmp 21) = (.int .i64 0) := hf 21 rfl
      clear hd hz hf hw
      simp only [Oper.wp, execOp, resolve, List.map_toArray, List.map_cons, List.map_nil, Option.map_some, Option.map_none, e0]
      go_simp
      exact hK _ _ rfl (Same.refl _ _)
    · intro ac wc hs hd hz hf hw K hK
      have eg : ac.eval (.tmp 173) = .bool true := hw 2 rfl
      refine run_wanted (j := 2) (d := 173) (b := true) rfl rfl hz (of_decide_eq_true rfl) eg ?_
      clear eg
      have e0 : ac.eval (.tmp 174) = (.int .i64 0) := hw 3 rfl
      clear hd hz hf hw
      simp only [Oper.wp, execOp, resolve, List.map_toArray, List.map_cons, List.map_nil, Option.map_some, Option.map_none, e0]
      go_simp
      exact hK _ _ rfl (Same.refl _ _)
    · intro ac wc hs hd hz hf hw K hK
      have e0 : ac.eval (.tmp 173) = (.bool true) := hw 2 rfl
      have e1 : ac.eval (.tmp 175) = (.bool true) := hw 4 rfl
      clear hd hz hf hw
      simp only [Region.wanted, if_true, Oper.wp, execOp, resolve, List.map_toArray, List.map_cons, List.map_nil, Option.map_some, Option.map_none, e0, e1]
      go_simp
      exact hK _ _ rfl (Same.refl _ _)
    · intro ac wc hs hd hz hf hw K hK
      have e0 : ac.eval (.tmp 176) = (.bool true) := hw 5 rfl
      clear hd hz hf hw
      simp only [Region.wanted, if_true, Oper.wp, execOp, resolve, List.map_toArray, List.map_cons, List.map_nil, Option.map_some, Option.map_none, e0]
      go_simp
      exact hK _ _ rfl (Same.refl _ _)
    · intro ac wc hs hd hz hf hw K hK
      have eg : ac.eval (.tmp 177) = .bool true := hw 6 rfl
      refine run_wanted (j := 6) (d := 177) (b := true) rfl rfl hz (of_decide_eq_true rfl) eg ?_
      clear eg
      have e0 : ac.eval (.tmp 25) = (.int .i64 0) := hf 25 rfl
      clear hd hz hf hw
      simp only [Oper.wp, execOp, resolve, List.map_toArray, List.map_cons, List.map_nil, Option.map_some, Option.map_none, e0]
      go_simp
      exact hK _ _ rfl (Same.refl _ _)
    · intro ac wc hs hd hz hf hw K hK
      have eg : ac.eval (.tmp 177) = .bool true := hw 6 rfl
      refine run_wanted (j := 6) (d := 177) (b := true) rfl rfl hz (of_decide_eq_true rfl) eg ?_
      clear eg
      have e0 : ac.eval (.tmp 178) = (.int .i64 0) := hw 7 rfl
      clear hd hz hf hw
      simp only [Oper.wp, execOp, resolve, List.map_toArray, List.map_cons, List.map_nil, Option.map_some, Option.map_none, e0]
      go_simp
      exact hK _ _ rfl (Same.refl _ _)
    · intro ac wc hs hd hz hf hw K hK
      have e0 : ac.eval (.tmp 177) = (.bool true) := hw 6 rfl
      have e1 : ac.eval (.tmp 179) = (.bool true) := hw 8 rfl
      clear hd hz hf hw
      simp only [Region.wanted, if_true, Oper.wp, execOp, resolve, List.map_toArray, List.map_cons, List.map_nil, Option.map_some, Option.map_none, e0, e1]
      go_simp
      exact hK _ _ rfl (Same.refl _ _)
    · intro ac wc hs hd hz hf hw K hK
      have e0 : ac.eval (.tmp 180) = (.bool true) := hw 9 rfl
      clear hd hz hf hw
      simp only [Region.wanted, if_true, Oper.wp, execOp, resolve, List.map_toArray, List.map_cons, List.map_nil, Option.map_some, Option.map_none, e0]
      go_simp
      exact hK _ _ rfl (Same.refl _ _)
    · intro ac wc hs hd hz hf hw K hK
      have eg : ac.eval (.tmp 181) = .bool true := hw 10 rfl
      refine run_wanted (j := 10) (d := 181) (b := true) rfl rfl hz (of_decide_eq_true rfl) eg ?_
      clear eg
      have e0 : ac.eval (.tmp 16) = (.pointer (some ⟨g4, 0, none⟩)) := hf 16 rfl
      clear hd hz hf hw
      simp only [Oper.wp, execOp, resolve, List.map_toArray, List.map_cons, List.map_nil, Option.map_some, Option.map_none, e0]
      go_simp
      exact hK _ _ rfl (Same.refl _ _)
    · intro ac wc hs hd hz hf hw K hK
      have eg : ac.eval (.tmp 181) = .bool true := hw 10 rfl
      refine run_wanted (j := 10) (d := 181) (b := true) rfl rfl hz (of_decide_eq_true rfl) eg ?_
      clear eg
      have e0 : ac.eval (.tmp 182) = (.pointer (some ⟨g4, 2, none⟩)) := hw 11 rfl
      have m0 : wc.cell? ⟨g4, 2, none⟩ = some (.slice (some ad4) 1 c4) := hs.cell (p := ⟨g4, 2, none⟩) trivial x4
      clear hd hz hf hw
      simp only [Oper.wp, execOp, resolve, List.map_toArray, List.map_cons, List.map_nil, Option.map_some, Option.map_none, e0]
      go_simp
      exact hK _ _ rfl (Same.refl _ _)
    · intro ac wc hs hd hz hf hw K hK
      have eg : ac.eval (.tmp 181) = .bool true := hw 10 rfl
      refine run_wanted (j := 10) (d := 181) (b := true) rfl rfl hz (of_decide_eq_true rfl) eg ?_
      clear eg
      have e0 : ac.eval (.tmp 183) = (.slice (some ad4) 1 c4) := hw 12 rfl
      clear hd hz hf hw
      simp only [Oper.wp, execOp, resolve, List.map_toArray, List.map_cons, List.map_nil, Option.map_some, Option.map_none, e0]
      go_simp
      exact hK _ _ rfl (Same.refl _ _)
    · intro ac wc hs hd hz hf hw K hK
      have eg : ac.eval (.tmp 181) = .bool true := hw 10 rfl
      refine run_wanted (j := 10) (d := 181) (b := true) rfl rfl hz (of_decide_eq_true rfl) eg ?_
      clear eg
      have e0 : ac.eval (.tmp 184) = (.pointer (some ad4)) := hw 13 rfl
      clear hd hz hf hw
      simp only [Oper.wp, execOp, resolve, List.map_toArray, List.map_cons, List.map_nil, Option.map_some, Option.map_none, e0]
      go_simp
      exact hK _ _ rfl (Same.refl _ _)
    · intro ac wc hs hd hz hf hw K hK
      have eg : ac.eval (.tmp 181) = .bool true := hw 10 rfl
      refine run_wanted (j := 10) (d := 181) (b := true) rfl rfl hz (of_decide_eq_true rfl) eg ?_
      clear eg
      have e0 : ac.eval (.tmp 185) = (.pointer (some ⟨ad4.block, ad4.off + 6, none⟩)) := hw 14 rfl
      have m0 : wc.cell? ⟨ad4.block, ad4.off + 6, none⟩ = some (.int .i64 a.kind) := hs.cell (p := ⟨ad4.block, ad4.off + 6, none⟩) trivial d6
      have m1 : wc.cell? ⟨ad4.block, ad4.off + 7, none⟩ = some (.string (str a.s)) := hs.cell (p := ⟨ad4.block, ad4.off + 7, none⟩) trivial d7
      have m2 : wc.cell? ⟨ad4.block, ad4.off + 8, none⟩ = some (.int .i64 a.v.kind) := hs.cell (p := ⟨ad4.block, ad4.off + 8, none⟩) trivial d8
      have m3 : wc.cell? ⟨ad4.block, ad4.off + 9, none⟩ = some (.int .i64 a.v.n) := hs.cell (p := ⟨ad4.block, ad4.off + 9, none⟩) trivial d9
      have m4 : wc.cell? ⟨ad4.block, ad4.off + 10, none⟩ = some (.string (str a.v.s)) := hs.cell (p := ⟨ad4.block, ad4.off + 10, none⟩) trivial d10
      have m5 : wc.cell? ⟨ad4.block, ad4.off + 11, none⟩ = some (.slice B4 a.args.length n4) := hs.cell (p := ⟨ad4.block, ad4.off + 11, none⟩) trivial d11
      clear hd hz hf hw
      simp only [Oper.wp, execOp, resolve, List.map_toArray, List.map_cons, List.map_nil, Option.map_some, Option.map_none, e0]
      go_simp
      exact hK _ _ rfl (Same.refl _ _)
    · intro ac wc hs hd hz hf hw K hK
      have eg : ac.eval (.tmp 181) = .bool true := hw 10 rfl
      refine run_wanted (j := 10) (d := 181) (b := true) rfl rfl hz (of_decide_eq_true rfl) eg ?_
      clear eg
      have e0 : ac.eval (.tmp 3) = (.pointer (some ⟨g, 0, none⟩)) := hf 3 rfl
      have m0 : wc.cell? ⟨g, 0, none⟩ = some (.int .i64 a.kind) := hs.cell (p := ⟨g, 0, none⟩) trivial ca0
      have m1 : wc.cell? ⟨g, 1, none⟩ = some (.string (str a.s)) := hs.cell (p := ⟨g, 1, none⟩) trivial ca1
      have m2 : wc.cell? ⟨g, 2, none⟩ = some (.int .i64 a.v.kind) := hs.cell (p := ⟨g, 2, none⟩) trivial ca2
      have m3 : wc.cell? ⟨g, 3, none⟩ = some (.int .i64 a.v.n) := hs.cell (p := ⟨g, 3, none⟩) trivial ca3
      have m4 : wc.cell? ⟨g, 4, none⟩ = some (.string (str a.v.s)) := hs.cell (p := ⟨g, 4, none⟩) trivial ca4
      have m5 : wc.cell? ⟨g, 5, none⟩ = some (.slice Aa a.args.length na) := hs.cell (p := ⟨g, 5, none⟩) trivial ca5
      clear hd hz hf hw
      simp only [Oper.wp, execOp, resolve, List.map_toArray, List.map_cons, List.map_nil, Option.map_some, Option.map_none, e0]
      go_simp
      exact hK _ _ rfl (Same.refl _ _)
    · intro ac wc hs hd hz hf hw K hK
      have eg : ac.eval (.tmp 181) = .bool true := hw 10 rfl
      refine run_wanted (j := 10) (d := 181) (b := true) rfl rfl hz (of_decide_eq_true rfl) eg ?_
      clear eg
      have e0 : ac.eval (.tmp 186) = (.agg #[.int .i64 a.kind, .string (str a.s), .int .i64 a.v.kind, .int .i64 a.v.n, .string (str a.v.s), .slice B4 a.args.length n4]) := hw 15 rfl
      have e1 : ac.eval (.tmp 187) = (.agg #[.int .i64 a.kind, .string (str a.s), .int .i64 a.v.kind, .int .i64 a.v.n, .string (str a.v.s), .slice Aa a.args.length na]) := hw 16 rfl
      clear hd hz hf hw
      simp only [Oper.wp, execOp, resolve, List.map_toArray, List.map_cons, List.map_nil, Option.map_some, Option.map_none, e0, e1]
      go_simp
      refine (same_self a (.slice B4 a.args.length n4) (.slice Aa a.args.length na) wc (HX4.out.keepAll hs) (HXA.out.keepAll hs)).mono ?_
      rintro e wd ⟨rfl, hS⟩
      exact hK _ _ rfl hS
    · intro ac wc hs hd hz hf hw K hK
      have e0 : ac.eval (.tmp 181) = (.bool true) := hw 10 rfl
      have e1 : ac.eval (.tmp 188) = (.bool true) := hw 17 rfl
      clear hd hz hf hw
      simp only [Region.wanted, if_true, Oper.wp, execOp, resolve, List.map_toArray, List.map_cons, List.map_nil, Option.map_some, Option.map_none, e0, e1]
      go_simp
      exact hK _ _ rfl (Same.refl _ _)
    · intro ac wc hs hd hz hf hw K hK
      have e0 : ac.eval (.tmp 189) = (.bool true) := hw 18 rfl
      clear hd hz hf hw
      simp only [Region.wanted, if_true, Oper.wp, execOp, resolve, List.map_toArray, List.map_cons, List.map_nil, Option.map_some, Option.map_none, e0]
      go_simp
      exact hK _ _ rfl (Same.refl _ _)
    · intro ac wc hs hd hz hf hw K hK
      have eg : ac.eval (.tmp 190) = .bool true := hw 19 rfl
      refine run_wanted (j := 19) (d := 190) (b := true) rfl rfl hz (of_decide_eq_true rfl) eg ?_
      clear eg
      have e0 : ac.eval (.tmp 19) = (.pointer (some ⟨g5, 0, none⟩)) := hf 19 rfl
      clear hd hz hf hw
      simp only [Oper.wp, execOp, resolve, List.map_toArray, List.map_cons, List.map_nil, Option.map_some, Option.map_none, e0]
      go_simp
      exact hK _ _ rfl (Same.refl _ _)
    · intro ac wc hs hd hz hf hw K hK
      have eg : ac.eval (.tmp 190) = .bool true := hw 19 rfl
      refine run_wanted (j := 19) (d := 190) (b := true) rfl rfl hz (of_decide_eq_true rfl) eg ?_
      clear eg
      have e0 : ac.eval (.tmp 191) = (.pointer (some ⟨g5, 2, none⟩)) := hw 20 rfl
      have m0 : wc.cell? ⟨g5, 2, none⟩ = some (.slice (some ad5) 1 c5) := hs.cell (p := ⟨g5, 2, none⟩) trivial x5
      clear hd hz hf hw
      simp only [Oper.wp, execOp, resolve, List.map_toArray, List.map_cons, List.map_nil, Option.map_some, Option.map_none, e0]
      go_simp
      exact hK _ _ rfl (Same.refl _ _)
    · intro ac wc hs hd hz hf hw K hK
      have eg : ac.eval (.tmp 190) = .bool true := hw 19 rfl
      refine run_wanted (j := 19) (d := 190) (b := true) rfl rfl hz (of_decide_eq_true rfl) eg ?_
      clear eg
      have e0 : ac.eval (.tmp 192) = (.slice (some ad5) 1 c5) := hw 21 rfl
      clear hd hz hf hw
      simp only [Oper.wp, execOp, resolve, List.map_toArray, List.map_cons, List.map_nil, Option.map_some, Option.map_none, e0]
      go_simp
      exact hK _ _ rfl (Same.refl _ _)
    · intro ac wc hs hd hz hf hw K hK
      have eg : ac.eval (.tmp 190) = .bool true := hw 19 rfl
      refine run_wanted (j := 19) (d := 190) (b := true) rfl rfl hz (of_decide_eq_true rfl) eg ?_
      clear eg
      have e0 : ac.eval (.tmp 193) = (.pointer (some ad5)) := hw 22 rfl
      clear hd hz hf hw
      simp only [Oper.wp, execOp, resolve, List.map_toArray, List.map_cons, List.map_nil, Option.map_some, Option.map_none, e0]
      go_simp
      exact hK _ _ rfl (Same.refl _ _)
    · intro ac wc hs hd hz hf hw K hK
      have eg : ac.eval (.tmp 190) = .bool true := hw 19 rfl
      refine run_wanted (j := 19) (d := 190) (b := true) rfl rfl hz (of_decide_eq_true rfl) eg ?_
      clear eg
      have e0 : ac.eval (.tmp 194) = (.pointer (some ⟨ad5.block, ad5.off + 6, none⟩)) := hw 23 rfl
      have m0 : wc.cell? ⟨ad5.block, ad5.off + 6, none⟩ = some (.int .i64 ew.kind) := hs.cell (p := ⟨ad5.block, ad5.off + 6, none⟩) trivial t6
      have m1 : wc.cell? ⟨ad5.block, ad5.off + 7, none⟩ = some (.string (str ew.s)) := hs.cell (p := ⟨ad5.block, ad5.off + 7, none⟩) trivial t7
      have m2 : wc.cell? ⟨ad5.block, ad5.off + 8, none⟩ = some (.int .i64 ew.v.kind) := hs.cell (p := ⟨ad5.block, ad5.off + 8, none⟩) trivial t8
      have m3 : wc.cell? ⟨ad5.block, ad5.off + 9, none⟩ = some (.int .i64 ew.v.n) := hs.cell (p := ⟨ad5.block, ad5.off + 9, none⟩) trivial t9
      have m4 : wc.cell? ⟨ad5.block, ad5.off + 10, none⟩ = some (.string (str ew.v.s)) := hs.cell (p := ⟨ad5.block, ad5.off + 10, none⟩) trivial t10
      have m5 : wc.cell? ⟨ad5.block, ad5.off + 11, none⟩ = some (.slice B5 ew.args.length n5) := hs.cell (p := ⟨ad5.block, ad5.off + 11, none⟩) trivial t11
      clear hd hz hf hw
      simp only [Oper.wp, execOp, resolve, List.map_toArray, List.map_cons, List.map_nil, Option.map_some, Option.map_none, e0]
      go_simp
      exact hK _ _ rfl (Same.refl _ _)
    · intro ac wc hs hd hz hf hw K hK
      have eg : ac.eval (.tmp 190) = .bool true := hw 19 rfl
      refine run_wanted (j := 19) (d := 190) (b := true) rfl rfl hz (of_decide_eq_true rfl) eg ?_
      clear eg
      have e0 : ac.eval (.tmp 22) = (.pointer (some ⟨gw, 0, none⟩)) := hf 22 rfl
      have m0 : wc.cell? ⟨gw, 0, none⟩ = some (.int .i64 ew.kind) := hs.cell (p := ⟨gw, 0, none⟩) trivial v0
      have m1 : wc.cell? ⟨gw, 1, none⟩ = some (.string (str ew.s)) := hs.cell (p := ⟨gw, 1, none⟩) trivial v1
      have m2 : wc.cell? ⟨gw, 2, none⟩ = some (.int .i64 ew.v.kind) := hs.cell (p := ⟨gw, 2, none⟩) trivial v2
      have m3 : wc.cell? ⟨gw, 3, none⟩ = some (.int .i64 ew.v.n) := hs.cell (p := ⟨gw, 3, none⟩) trivial v3
      have m4 : wc.cell? ⟨gw, 4, none⟩ = some (.string (str ew.v.s)) := hs.cell (p := ⟨gw, 4, none⟩) trivial v4
      have m5 : wc.cell? ⟨gw, 5, none⟩ = some (.slice (some ⟨gv, 0, none⟩) 2 2) := hs.cell (p := ⟨gw, 5, none⟩) trivial v5
      clear hd hz hf hw
      simp only [Oper.wp, execOp, resolve, List.map_toArray, List.map_cons, List.map_nil, Option.map_some, Option.map_none, e0]
      go_simp
      exact hK _ _ rfl (Same.refl _ _)
    · intro ac wc hs hd hz hf hw K hK
      have eg : ac.eval (.tmp 190) = .bool true := hw 19 rfl
      refine run_wanted (j := 19) (d := 190) (b := true) rfl rfl hz (of_decide_eq_true rfl) eg ?_
      clear eg
      have e0 : ac.eval (.tmp 195) = (.agg #[.int .i64 ew.kind, .string (str ew.s), .int .i64 ew.v.kind, .int .i64 ew.v.n, .string (str ew.v.s), .slice B5 ew.args.length n5]) := hw 24 rfl
      have e1 : ac.eval (.tmp 196) = (.agg #[.int .i64 ew.kind, .string (str ew.s), .int .i64 ew.v.kind, .int .i64 ew.v.n, .string (str ew.v.s), .slice (some ⟨gv, 0, none⟩) 2 2]) := hw 25 rfl
      clear hd hz hf hw
      simp only [Oper.wp, execOp, resolve, List.map_toArray, List.map_cons, List.map_nil, Option.map_some, Option.map_none, e0, e1]
      go_simp
      refine (same_self ew (.slice B5 ew.args.length n5) (.slice (some ⟨gv, 0, none⟩) 2 2) wc (HX5.out.keepAll hs) (HXW.out.keepAll hs)).mono ?_
      rintro e wd ⟨rfl, hS⟩
      exact hK _ _ rfl hS
    · intro ac wc hs hd hz hf hw K hK
      have e0 : ac.eval (.tmp 190) = (.bool true) := hw 19 rfl
      have e1 : ac.eval (.tmp 197) = (.bool true) := hw 26 rfl
      clear hd hz hf hw
      simp only [Region.wanted, if_true, Oper.wp, execOp, resolve, List.map_toArray, List.map_cons, List.map_nil, Option.map_some, Option.map_none, e0, e1]
      go_simp
      exact hK _ _ rfl (Same.refl _ _)
    · intro ac wc hs hd hz hf hw K hK
      have e0 : ac.eval (.tmp 198) = (.bool true) := hw 27 rfl
      clear hd hz hf hw
      simp only [Region.wanted, if_true, Oper.wp, execOp, resolve, List.map_toArray, List.map_cons, List.map_nil, Option.map_some, Option.map_none, e0]
      go_simp
      exact hK _ _ rfl (Same.refl _ _)
    · intro ac wc hs hd hz hf hw K hK
      have eg : ac.eval (.tmp 199) = .bool true := hw 28 rfl
      refine run_wanted (j := 28) (d := 199) (b := true) rfl rfl hz (of_decide_eq_true rfl) eg ?_
      clear eg
      have e0 : ac.eval (.tmp 23) = (.pointer (some ⟨g6, 0, none⟩)) := hf 23 rfl
      clear hd hz hf hw
      simp only [Oper.wp, execOp, resolve, List.map_toArray, List.map_cons, List.map_nil, Option.map_some, Option.map_none, e0]
      go_simp
      exact hK _ _ rfl (Same.refl _ _)
    · intro ac wc hs hd hz hf hw K hK
      have eg : ac.eval (.tmp 199) = .bool true := hw 28 rfl
      refine run_wanted (j := 28) (d := 199) (b := true) rfl rfl hz (of_decide_eq_true rfl) eg ?_
      clear eg
      have e0 : ac.eval (.tmp 200) = (.pointer (some ⟨g6, 2, none⟩)) := hw 29 rfl
      have m0 : wc.cell? ⟨g6, 2, none⟩ = some (.slice (some ad6) 1 c6) := hs.cell (p := ⟨g6, 2, none⟩) trivial x6
      clear hd hz hf hw
      simp only [Oper.wp, execOp, resolve, List.map_toArray, List.map_cons, List.map_nil, Option.map_some, Option.map_none, e0]
      go_simp
      exact hK _ _ rfl (Same.refl _ _)
    · intro ac wc hs hd hz hf hw K hK
      have eg : ac.eval (.tmp 199) = .bool true := hw 28 rfl
      refine run_wanted (j := 28) (d := 199) (b := true) rfl rfl hz (of_decide_eq_true rfl) eg ?_
      clear eg
      have e0 : ac.eval (.tmp 201) = (.slice (some ad6) 1 c6) := hw 30 rfl
      clear hd hz hf hw
      simp only [Oper.wp, execOp, resolve, List.map_toArray, List.map_cons, List.map_nil, Option.map_some, Option.map_none, e0]
      go_simp
      exact hK _ _ rfl (Same.refl _ _)
    · intro ac wc hs hd hz hf hw K hK
      have eg : ac.eval (.tmp 199) = .bool true := hw 28 rfl
      refine run_wanted (j := 28) (d := 199) (b := true) rfl rfl hz (of_decide_eq_true rfl) eg ?_
      clear eg
      have e0 : ac.eval (.tmp 202) = (.pointer (some ad6)) := hw 31 rfl
      clear hd hz hf hw
      simp only [Oper.wp, execOp, resolve, List.map_toArray, List.map_cons, List.map_nil, Option.map_some, Option.map_none, e0]
      go_simp
      exact hK _ _ rfl (Same.refl _ _)
    · intro ac wc hs hd hz hf hw K hK
      have eg : ac.eval (.tmp 199) = .bool true := hw 28 rfl
      refine run_wanted (j := 28) (d := 199) (b := true) rfl rfl hz (of_decide_eq_true rfl) eg ?_
      clear eg
      have e0 : ac.eval (.tmp 203) = (.pointer (some ⟨ad6.block, ad6.off + 6, none⟩)) := hw 32 rfl
      have m0 : wc.cell? ⟨ad6.block, ad6.off + 6, none⟩ = some (.int .i64 el.kind) := hs.cell (p := ⟨ad6.block, ad6.off + 6, none⟩) trivial z6
      have m1 : wc.cell? ⟨ad6.block, ad6.off + 7, none⟩ = some (.string (str el.s)) := hs.cell (p := ⟨ad6.block, ad6.off + 7, none⟩) trivial z7
      have m2 : wc.cell? ⟨ad6.block, ad6.off + 8, none⟩ = some (.int .i64 el.v.kind) := hs.cell (p := ⟨ad6.block, ad6.off + 8, none⟩) trivial z8
      have m3 : wc.cell? ⟨ad6.block, ad6.off + 9, none⟩ = some (.int .i64 el.v.n) := hs.cell (p := ⟨ad6.block, ad6.off + 9, none⟩) trivial z9
      have m4 : wc.cell? ⟨ad6.block, ad6.off + 10, none⟩ = some (.string (str el.v.s)) := hs.cell (p := ⟨ad6.block, ad6.off + 10, none⟩) trivial z10
      have m5 : wc.cell? ⟨ad6.block, ad6.off + 11, none⟩ = some (.slice B6 el.args.length n6) := hs.cell (p := ⟨ad6.block, ad6.off + 11, none⟩) trivial z11
      clear hd hz hf hw
      simp only [Oper.wp, execOp, resolve, List.map_toArray, List.map_cons, List.map_nil, Option.map_some, Option.map_none, e0]
      go_simp
      exact hK _ _ rfl (Same.refl _ _)
    · intro ac wc hs hd hz hf hw K hK
      have eg : ac.eval (.tmp 199) = .bool true := hw 28 rfl
      refine run_wanted (j := 28) (d := 199) (b := true) rfl rfl hz (of_decide_eq_true rfl) eg ?_
      clear eg
      have e0 : ac.eval (.tmp 26) = (.pointer (some ⟨gl, 0, none⟩)) := hf 26 rfl
      have m0 : wc.cell? ⟨gl, 0, none⟩ = some (.int .i64 el.kind) := hs.cell (p := ⟨gl, 0, none⟩) trivial y0
      have m1 : wc.cell? ⟨gl, 1, none⟩ = some (.string (str el.s)) := hs.cell (p := ⟨gl, 1, none⟩) trivial y1
      have m2 : wc.cell? ⟨gl, 2, none⟩ = some (.int .i64 el.v.kind) := hs.cell (p := ⟨gl, 2, none⟩) trivial y2
      have m3 : wc.cell? ⟨gl, 3, none⟩ = some (.int .i64 el.v.n) := hs.cell (p := ⟨gl, 3, none⟩) trivial y3
      have m4 : wc.cell? ⟨gl, 4, none⟩ = some (.string (str el.v.s)) := hs.cell (p := ⟨gl, 4, none⟩) trivial y4
      have m5 : wc.cell? ⟨gl, 5, none⟩ = some (.slice (some ⟨gu, 0, none⟩) 2 2) := hs.cell (p := ⟨gl, 5, none⟩) trivial y5
      clear hd hz hf hw
      simp only [Oper.wp, execOp, resolve, List.map_toArray, List.map_cons, List.map_nil, Option.map_some, Option.map_none, e0]
      go_simp
      exact hK _ _ rfl (Same.refl _ _)
    · intro ac wc hs hd hz hf hw K hK
      have eg : ac.eval (.tmp 199) = .bool true := hw 28 rfl
      refine run_wanted (j := 28) (d := 199) (b := true) rfl rfl hz (of_decide_eq_true rfl) eg ?_
      clear eg
      have e0 : ac.eval (.tmp 204) = (.agg #[.int .i64 el.kind, .string (str el.s), .int .i64 el.v.kind, .int .i64 el.v.n, .string (str el.v.s), .slice B6 el.args.length n6]) := hw 33 rfl
      have e1 : ac.eval (.tmp 205) = (.agg #[.int .i64 el.kind, .string (str el.s), .int .i64 el.v.kind, .int .i64 el.v.n, .string (str el.v.s), .slice (some ⟨gu, 0, none⟩) 2 2]) := hw 34 rfl
      clear hd hz hf hw
      simp only [Oper.wp, execOp, resolve, List.map_toArray, List.map_cons, List.map_nil, Option.map_some, Option.map_none, e0, e1]
      go_simp
      refine (same_self el (.slice B6 el.args.length n6) (.slice (some ⟨gu, 0, none⟩) 2 2) wc (HX6.out.keepAll hs) (HXL.out.keepAll hs)).mono ?_
      rintro e wd ⟨rfl, hS⟩
      exact hK _ _ rfl hS
    · intro ac wc hs hd hz hf hw K hK
      have e0 : ac.eval (.tmp 199) = (.bool true) := hw 28 rfl
      have e1 : ac.eval (.tmp 206) = (.bool true) := hw 35 rfl
      clear hd hz hf hw
      simp only [Region.wanted, if_true, Oper.wp, execOp, resolve, List.map_toArray, List.map_cons, List.map_nil, Option.map_some, Option.map_none, e0, e1]
      go_simp
      exact hK _ _ rfl (Same.refl _ _)
    · intro ac wc hs hd hz hf hw K hK
      have e0 : ac.eval (.tmp 207) = (.bool true) := hw 36 rfl
      clear hd hz hf hw
      simp only [Region.wanted, if_true, Oper.wp, execOp, resolve, List.map_toArray, List.map_cons, List.map_nil, Option.map_some, Option.map_none, e0]
      go_simp
      exact hK _ _ rfl (Same.refl _ _)
  · intro wR hsR
    simp only [putAll, Act.put, List.setIfInBounds_toArray, List.set_cons_succ, List.set_cons_zero]
    have HS := Lib.hid (HS.out.trans hsR)
    clear hsR
    go_wp2
    go_ret
    exact ⟨rfl, HS.out⟩
end Go.Proofs.YtdfojghhpdkpfaaGreatDoor
