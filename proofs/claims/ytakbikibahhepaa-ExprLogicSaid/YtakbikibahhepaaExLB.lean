/-
  The walk of ExprLogic.
-/
import Derived.Test.YtakbikibahhepaaExL9
set_option linter.unusedSimpArgs false
set_option linter.unusedVariables false
namespace Go.Proofs.Ytakbikibahhepaa
open Go.RowKit

set_option maxRecDepth 100000 in
set_option maxHeartbeats 32000000 in
theorem logic_walk (ua ub uc rv : Value) (a b c : Ex) (row : List Val) (w : World) (hva : ExR w (fun _ => True) ua a) (hvb : ExR w (fun _ => True) ub b) (hvc : ExR w (fun _ => True) uc c) (hrow : VaR w (fun _ => True) rv row)
    (hia : ExI a) (hib : ExI b) (hic : ExI c) (hri : ∀ x ∈ row, i64B x.n = true) :
    Calls Try.prog 5 #[exV ua a, exV ub b, exV uc c, rv] w (BoolP true w) := by
  obtain ⟨Aa, ca, rfl, hca, hma⟩ := hva.toL.form
  obtain ⟨Ab, cb, rfl, hcb, hmb⟩ := hvb.toL.form
  obtain ⟨Ac, cc, rfl, hcc, hmc⟩ := hvc.toL.form
  obtain ⟨Ar, cr, rfl, hrc, hrm⟩ := hrow.form
  unfold maxLen at hma hmb hmc hrm
  have hLF := fun d1 d2 d3 z1 z2 z3 => logic_facts cols3 row a b c d1 d2 d3 z1 z2 z3
  have hS0 := (((Same.refl (fun _ => True) w).alloc (.cells (exCs (.slice Aa a.args.length ca) a).toArray 26)).alloc (.cells (exCs (.slice Ab b.args.length cb) b).toArray 26)).alloc (.cells (exCs (.slice Ac c.args.length cc) c).toArray 26)
  have hra := ((Row.new w 26 (exCs (.slice Aa a.args.length ca) a)).keep ((Same.refl (fun _ => True) _).alloc (.cells (exCs (.slice Ab b.args.length cb) b).toArray 26)) trivial).keep ((Same.refl (fun _ => True) _).alloc (.cells (exCs (.slice Ac c.args.length cc) c).toArray 26)) trivial
  have hrb := (Row.new (w.alloc (.cells (exCs (.slice Aa a.args.length ca) a).toArray 26)) 26 (exCs (.slice Ab b.args.length cb) b)).keep ((Same.refl (fun _ => True) _).alloc (.cells (exCs (.slice Ac c.args.length cc) c).toArray 26)) trivial
  have hrd := Row.new ((w.alloc (.cells (exCs (.slice Aa a.args.length ca) a).toArray 26)).alloc (.cells (exCs (.slice Ab b.args.length cb) b).toArray 26)) 26 (exCs (.slice Ac c.args.length cc) c)
  rw [World.size_alloc] at hrb
  rw [World.size_alloc, World.size_alloc, show w.heap.size + 1 + 1 = w.heap.size + 2 from rfl] at hrd
  have hlsa := light_size a 100
  have hlia := fun W h => light_any (fun _ => True) a (.slice Aa a.args.length ca) 100 W h (by omega)
  have hdea := fun hs W h => deep_any (fun _ => True) a hs (.slice Aa a.args.length ca) W h
  obtain ⟨La, hLa⟩ : ∃ L, lightF a 100 = L := ⟨_, rfl⟩
  obtain ⟨Da, hDa⟩ : ∃ D, a.deep = D := ⟨_, rfl⟩
  rw [hLa] at hlsa hlia
  rw [hDa] at hdea hLF
  have Hlsa := Lib.hid hlsa
  have Hlia := Lib.hid hlia
  have Hdea := Lib.hid hdea
  have Hva := Lib.hid hva
  have Hia := Lib.hid hia
  have hlsb := light_size b 100
  have hlib := fun W h => light_any (fun _ => True) b (.slice Ab b.args.length cb) 100 W h (by omega)
  have hdeb := fun hs W h => deep_any (fun _ => True) b hs (.slice Ab b.args.length cb) W h
  obtain ⟨Lb, hLb⟩ : ∃ L, lightF b 100 = L := ⟨_, rfl⟩
  obtain ⟨Db, hDb⟩ : ∃ D, b.deep = D := ⟨_, rfl⟩
  rw [hLb] at hlsb hlib
  rw [hDb] at hdeb hLF
  have Hlsb := Lib.hid hlsb
  have Hlib := Lib.hid hlib
  have Hdeb := Lib.hid hdeb
  have Hvb := Lib.hid hvb
  have Hib := Lib.hid hib
  have hlsc := light_size c 100
  have hlic := fun W h => light_any (fun _ => True) c (.slice Ac c.args.length cc) 100 W h (by omega)
  have hdec := fun hs W h => deep_any (fun _ => True) c hs (.slice Ac c.args.length cc) W h
  obtain ⟨Lc, hLc⟩ : ∃ L, lightF c 100 = L := ⟨_, rfl⟩
  obtain ⟨Dc, hDc⟩ : ∃ D, c.deep = D := ⟨_, rfl⟩
  rw [hLc] at hlsc hlic
  rw [hDc] at hdec hLF
  have Hlsc := Lib.hid hlsc
  have Hlic := Lib.hid hlic
  have Hdec := Lib.hid hdec
  have Hvc := Lib.hid hvc
  have Hic := Lib.hid hic
  have HLF := Lib.hid hLF
  have HS0 := Lib.hid hS0
  have Hra := Lib.hid hra
  have Hrb := Lib.hid hrb
  have Hrc := Lib.hid hrd
  have Hrow := Lib.hid hrow
  have Hri := Lib.hid hri
  clear hLF hS0 hra hrb hrd hrow hri hlsa hlia hdea hLa hDa hva hia hlsb hlib hdeb hLb hDb hvb hib hlsc hlic hdec hLc hDc hvc hic
  go_enter Try.func5, Try.ntmps5
  go_wp2_with (go_at_call 10; refine stopAt ?_)
  unfold Hid
  refine (begun_any _).mono ?_
  rintro e' w1 ⟨rfl, hS1⟩
  have hra := Hra.out.keep hS1 trivial
  have hrb := Hrb.out.keep hS1 trivial
  have hrc' := Hrc.out.keep hS1 trivial
  have HS1 := Lib.hid (HS0.out.trans hS1)
  clear hS1 Hra Hrb Hrc
  have k0 : w1.cell? ⟨w.heap.size, 0, none⟩ = some (.int .i64 a.kind) := hra.cell 0
  have k1 : w1.cell? ⟨w.heap.size, 1, none⟩ = some (.string (str a.s)) := hra.cell 1
  have k2 : w1.cell? ⟨w.heap.size, 2, none⟩ = some (.int .i64 a.v.kind) := hra.cell 2
  have k3 : w1.cell? ⟨w.heap.size, 3, none⟩ = some (.int .i64 a.v.n) := hra.cell 3
  have k4 : w1.cell? ⟨w.heap.size, 4, none⟩ = some (.string (str a.v.s)) := hra.cell 4
  have k5 : w1.cell? ⟨w.heap.size, 5, none⟩ = some (.slice Aa a.args.length ca) := hra.cell 5
  have l0 : w1.cell? ⟨w.heap.size + 1, 0, none⟩ = some (.int .i64 b.kind) := hrb.cell 0
  have l1 : w1.cell? ⟨w.heap.size + 1, 1, none⟩ = some (.string (str b.s)) := hrb.cell 1
  have l2 : w1.cell? ⟨w.heap.size + 1, 2, none⟩ = some (.int .i64 b.v.kind) := hrb.cell 2
  have l3 : w1.cell? ⟨w.heap.size + 1, 3, none⟩ = some (.int .i64 b.v.n) := hrb.cell 3
  have l4 : w1.cell? ⟨w.heap.size + 1, 4, none⟩ = some (.string (str b.v.s)) := hrb.cell 4
  have l5 : w1.cell? ⟨w.heap.size + 1, 5, none⟩ = some (.slice Ab b.args.length cb) := hrb.cell 5
  have m0 : w1.cell? ⟨w.heap.size + 2, 0, none⟩ = some (.int .i64 c.kind) := hrc'.cell 0
  have m1 : w1.cell? ⟨w.heap.size + 2, 1, none⟩ = some (.string (str c.s)) := hrc'.cell 1
  have m2 : w1.cell? ⟨w.heap.size + 2, 2, none⟩ = some (.int .i64 c.v.kind) := hrc'.cell 2
  have m3 : w1.cell? ⟨w.heap.size + 2, 3, none⟩ = some (.int .i64 c.v.n) := hrc'.cell 3
  have m4 : w1.cell? ⟨w.heap.size + 2, 4, none⟩ = some (.string (str c.v.s)) := hrc'.cell 4
  have m5 : w1.cell? ⟨w.heap.size + 2, 5, none⟩ = some (.slice Ac c.args.length cc) := hrc'.cell 5
  have zc := hrc'.lt
  have Hra := Lib.hid hra
  have Hrb := Lib.hid hrb
  have Hrc := Lib.hid hrc'
  clear hra hrb hrc'
  have hl1 := Hlia.out w1 (Hva.out.keepAll HS1.out)
  by_cases hL0 : La = 0
  · rw [hL0] at hl1
    go_wp2_with (go_at_call 11; refine stopAt ?_)
    unfold Hid
    refine hl1.mono ?_
    rintro e' w2 ⟨rfl, hS2⟩
    have HS9 := Lib.hid (HS1.out.trans hS2)
    clear hS2 hl1
    go_wp2
    go_ret
    exact ⟨rfl, HS9.out⟩
  have Hza : Hid (a.size ≤ 100) := Lib.hid (by have := Hlsa.out hL0; omega)
  have bLa : ((La : Int) == 0) = false := by simp; omega
  clear hL0
  go_wp2_with (go_at_call 11; refine stopAt ?_)
  unfold Hid
  refine hl1.mono ?_
  rintro e' w2 ⟨rfl, hS⟩
  have HS2 := Lib.hid (HS1.out.trans hS)
  have hra := Hra.out.keep hS trivial
  have hrb := Hrb.out.keep hS trivial
  have hrc' := Hrc.out.keep hS trivial
  clear Hra Hrb Hrc
  clear hS hl1 zc k0 k1 k2 k3 k4 k5 l0 l1 l2 l3 l4 l5 m0 m1 m2 m3 m4 m5
  have k0 : w2.cell? ⟨w.heap.size, 0, none⟩ = some (.int .i64 a.kind) := hra.cell 0
  have k1 : w2.cell? ⟨w.heap.size, 1, none⟩ = some (.string (str a.s)) := hra.cell 1
  have k2 : w2.cell? ⟨w.heap.size, 2, none⟩ = some (.int .i64 a.v.kind) := hra.cell 2
  have k3 : w2.cell? ⟨w.heap.size, 3, none⟩ = some (.int .i64 a.v.n) := hra.cell 3
  have k4 : w2.cell? ⟨w.heap.size, 4, none⟩ = some (.string (str a.v.s)) := hra.cell 4
  have k5 : w2.cell? ⟨w.heap.size, 5, none⟩ = some (.slice Aa a.args.length ca) := hra.cell 5
  have l0 : w2.cell? ⟨w.heap.size + 1, 0, none⟩ = some (.int .i64 b.kind) := hrb.cell 0
  have l1 : w2.cell? ⟨w.heap.size + 1, 1, none⟩ = some (.string (str b.s)) := hrb.cell 1
  have l2 : w2.cell? ⟨w.heap.size + 1, 2, none⟩ = some (.int .i64 b.v.kind) := hrb.cell 2
  have l3 : w2.cell? ⟨w.heap.size + 1, 3, none⟩ = some (.int .i64 b.v.n) := hrb.cell 3
  have l4 : w2.cell? ⟨w.heap.size + 1, 4, none⟩ = some (.string (str b.v.s)) := hrb.cell 4
  have l5 : w2.cell? ⟨w.heap.size + 1, 5, none⟩ = some (.slice Ab b.args.length cb) := hrb.cell 5
  have m0 : w2.cell? ⟨w.heap.size + 2, 0, none⟩ = some (.int .i64 c.kind) := hrc'.cell 0
  have m1 : w2.cell? ⟨w.heap.size + 2, 1, none⟩ = some (.string (str c.s)) := hrc'.cell 1
  have m2 : w2.cell? ⟨w.heap.size + 2, 2, none⟩ = some (.int .i64 c.v.kind) := hrc'.cell 2
  have m3 : w2.cell? ⟨w.heap.size + 2, 3, none⟩ = some (.int .i64 c.v.n) := hrc'.cell 3
  have m4 : w2.cell? ⟨w.heap.size + 2, 4, none⟩ = some (.string (str c.v.s)) := hrc'.cell 4
  have m5 : w2.cell? ⟨w.heap.size + 2, 5, none⟩ = some (.slice Ac c.args.length cc) := hrc'.cell 5
  have zc := hrc'.lt
  have Hra := Lib.hid hra
  have Hrb := Lib.hid hrb
  have Hrc := Lib.hid hrc'
  clear hra hrb hrc'
  have hl1 := Hlib.out w2 (Hvb.out.keepAll HS2.out)
  by_cases hL0 : Lb = 0
  · rw [hL0] at hl1
    go_wp2_with (go_at_call 11; refine stopAt ?_)
    unfold Hid
    refine hl1.mono ?_
    rintro e' w2 ⟨rfl, hS2⟩
    have HS9 := Lib.hid (HS2.out.trans hS2)
    clear hS2 hl1
    go_wp2
    go_ret
    exact ⟨rfl, HS9.out⟩
  have Hzb : Hid (b.size ≤ 100) := Lib.hid (by have := Hlsb.out hL0; omega)
  have bLb : ((Lb : Int) == 0) = false := by simp; omega
  clear hL0
  go_wp2_with (go_at_call 11; refine stopAt ?_)
  unfold Hid
  refine hl1.mono ?_
  rintro e' w3 ⟨rfl, hS⟩
  have HS3 := Lib.hid (HS2.out.trans hS)
  have hra := Hra.out.keep hS trivial
  have hrb := Hrb.out.keep hS trivial
  have hrc' := Hrc.out.keep hS trivial
  clear Hra Hrb Hrc
  clear hS hl1 zc k0 k1 k2 k3 k4 k5 l0 l1 l2 l3 l4 l5 m0 m1 m2 m3 m4 m5
  have k0 : w3.cell? ⟨w.heap.size, 0, none⟩ = some (.int .i64 a.kind) := hra.cell 0
  have k1 : w3.cell? ⟨w.heap.size, 1, none⟩ = some (.string (str a.s)) := hra.cell 1
  have k2 : w3.cell? ⟨w.heap.size, 2, none⟩ = some (.int .i64 a.v.kind) := hra.cell 2
  have k3 : w3.cell? ⟨w.heap.size, 3, none⟩ = some (.int .i64 a.v.n) := hra.cell 3
  have k4 : w3.cell? ⟨w.heap.size, 4, none⟩ = some (.string (str a.v.s)) := hra.cell 4
  have k5 : w3.cell? ⟨w.heap.size, 5, none⟩ = some (.slice Aa a.args.length ca) := hra.cell 5
  have l0 : w3.cell? ⟨w.heap.size + 1, 0, none⟩ = some (.int .i64 b.kind) := hrb.cell 0
  have l1 : w3.cell? ⟨w.heap.size + 1, 1, none⟩ = some (.string (str b.s)) := hrb.cell 1
  have l2 : w3.cell? ⟨w.heap.size + 1, 2, none⟩ = some (.int .i64 b.v.kind) := hrb.cell 2
  have l3 : w3.cell? ⟨w.heap.size + 1, 3, none⟩ = some (.int .i64 b.v.n) := hrb.cell 3
  have l4 : w3.cell? ⟨w.heap.size + 1, 4, none⟩ = some (.string (str b.v.s)) := hrb.cell 4
  have l5 : w3.cell? ⟨w.heap.size + 1, 5, none⟩ = some (.slice Ab b.args.length cb) := hrb.cell 5
  have m0 : w3.cell? ⟨w.heap.size + 2, 0, none⟩ = some (.int .i64 c.kind) := hrc'.cell 0
  have m1 : w3.cell? ⟨w.heap.size + 2, 1, none⟩ = some (.string (str c.s)) := hrc'.cell 1
  have m2 : w3.cell? ⟨w.heap.size + 2, 2, none⟩ = some (.int .i64 c.v.kind) := hrc'.cell 2
  have m3 : w3.cell? ⟨w.heap.size + 2, 3, none⟩ = some (.int .i64 c.v.n) := hrc'.cell 3
  have m4 : w3.cell? ⟨w.heap.size + 2, 4, none⟩ = some (.string (str c.v.s)) := hrc'.cell 4
  have m5 : w3.cell? ⟨w.heap.size + 2, 5, none⟩ = some (.slice Ac c.args.length cc) := hrc'.cell 5
  have zc := hrc'.lt
  have Hra := Lib.hid hra
  have Hrb := Lib.hid hrb
  have Hrc := Lib.hid hrc'
  clear hra hrb hrc'
  have hl1 := Hlic.out w3 (Hvc.out.keepAll HS3.out)
  by_cases hL0 : Lc = 0
  · rw [hL0] at hl1
    go_wp2_with (go_at_call 11; refine stopAt ?_)
    unfold Hid
    refine hl1.mono ?_
    rintro e' w2 ⟨rfl, hS2⟩
    have HS9 := Lib.hid (HS3.out.trans hS2)
    clear hS2 hl1
    go_wp2
    go_ret
    exact ⟨rfl, HS9.out⟩
  have Hzc : Hid (c.size ≤ 100) := Lib.hid (by have := Hlsc.out hL0; omega)
  have bLc : ((Lc : Int) == 0) = false := by simp; omega
  clear hL0
  go_wp2_with (go_at_call 11; refine stopAt ?_)
  unfold Hid
  refine hl1.mono ?_
  rintro e' w4 ⟨rfl, hS⟩
  have HS4 := Lib.hid (HS3.out.trans hS)
  have hra := Hra.out.keep hS trivial
  have hrb := Hrb.out.keep hS trivial
  have hrc' := Hrc.out.keep hS trivial
  clear Hra Hrb Hrc
  clear hS hl1 zc k0 k1 k2 k3 k4 k5 l0 l1 l2 l3 l4 l5 m0 m1 m2 m3 m4 m5
  by_cases hr12 : 12 < row.length
  · have x1 : (12 : Int) < (row.length : Int) := by omega
    clear hr12
    go_wp2
    go_ret
    exact ⟨rfl, HS4.out⟩
  have x1 : (row.length : Int) ≤ 12 := by omega
  clear hr12
  have k0 : w4.cell? ⟨w.heap.size, 0, none⟩ = some (.int .i64 a.kind) := hra.cell 0
  have k1 : w4.cell? ⟨w.heap.size, 1, none⟩ = some (.string (str a.s)) := hra.cell 1
  have k2 : w4.cell? ⟨w.heap.size, 2, none⟩ = some (.int .i64 a.v.kind) := hra.cell 2
  have k3 : w4.cell? ⟨w.heap.size, 3, none⟩ = some (.int .i64 a.v.n) := hra.cell 3
  have k4 : w4.cell? ⟨w.heap.size, 4, none⟩ = some (.string (str a.v.s)) := hra.cell 4
  have k5 : w4.cell? ⟨w.heap.size, 5, none⟩ = some (.slice Aa a.args.length ca) := hra.cell 5
  have l0 : w4.cell? ⟨w.heap.size + 1, 0, none⟩ = some (.int .i64 b.kind) := hrb.cell 0
  have l1 : w4.cell? ⟨w.heap.size + 1, 1, none⟩ = some (.string (str b.s)) := hrb.cell 1
  have l2 : w4.cell? ⟨w.heap.size + 1, 2, none⟩ = some (.int .i64 b.v.kind) := hrb.cell 2
  have l3 : w4.cell? ⟨w.heap.size + 1, 3, none⟩ = some (.int .i64 b.v.n) := hrb.cell 3
  have l4 : w4.cell? ⟨w.heap.size + 1, 4, none⟩ = some (.string (str b.v.s)) := hrb.cell 4
  have l5 : w4.cell? ⟨w.heap.size + 1, 5, none⟩ = some (.slice Ab b.args.length cb) := hrb.cell 5
  have m0 : w4.cell? ⟨w.heap.size + 2, 0, none⟩ = some (.int .i64 c.kind) := hrc'.cell 0
  have m1 : w4.cell? ⟨w.heap.size + 2, 1, none⟩ = some (.string (str c.s)) := hrc'.cell 1
  have m2 : w4.cell? ⟨w.heap.size + 2, 2, none⟩ = some (.int .i64 c.v.kind) := hrc'.cell 2
  have m3 : w4.cell? ⟨w.heap.size + 2, 3, none⟩ = some (.int .i64 c.v.n) := hrc'.cell 3
  have m4 : w4.cell? ⟨w.heap.size + 2, 4, none⟩ = some (.string (str c.v.s)) := hrc'.cell 4
  have m5 : w4.cell? ⟨w.heap.size + 2, 5, none⟩ = some (.slice Ac c.args.length cc) := hrc'.cell 5
  have zc := hrc'.lt
  have Hra := Lib.hid hra
  have Hrb := Lib.hid hrb
  have Hrc := Lib.hid hrc'
  clear hra hrb hrc'
  have hl1 := Hdea.out (by have := Hza.out; omega) w4 (Hva.out.keepAll HS4.out)
  go_wp2_with (go_at_call 19; refine stopAt ?_)
  unfold Hid
  refine hl1.mono ?_
  rintro e' w5 ⟨rfl, hS⟩
  have HS5 := Lib.hid (HS4.out.trans hS)
  have hra := Hra.out.keep hS trivial
  have hrb := Hrb.out.keep hS trivial
  have hrc' := Hrc.out.keep hS trivial
  clear Hra Hrb Hrc
  clear hS hl1 zc k0 k1 k2 k3 k4 k5 l0 l1 l2 l3 l4 l5 m0 m1 m2 m3 m4 m5
  by_cases hd50 : 50 < Da
  · have x2 : (50 : Int) < (Da : Int) := by omega
    clear hd50
    go_wp2
    go_ret
    exact ⟨rfl, HS5.out⟩
  have ya : (Da : Int) ≤ 50 := by omega
  clear hd50
  have k0 : w5.cell? ⟨w.heap.size, 0, none⟩ = some (.int .i64 a.kind) := hra.cell 0
  have k1 : w5.cell? ⟨w.heap.size, 1, none⟩ = some (.string (str a.s)) := hra.cell 1
  have k2 : w5.cell? ⟨w.heap.size, 2, none⟩ = some (.int .i64 a.v.kind) := hra.cell 2
  have k3 : w5.cell? ⟨w.heap.size, 3, none⟩ = some (.int .i64 a.v.n) := hra.cell 3
  have k4 : w5.cell? ⟨w.heap.size, 4, none⟩ = some (.string (str a.v.s)) := hra.cell 4
  have k5 : w5.cell? ⟨w.heap.size, 5, none⟩ = some (.slice Aa a.args.length ca) := hra.cell 5
  have l0 : w5.cell? ⟨w.heap.size + 1, 0, none⟩ = some (.int .i64 b.kind) := hrb.cell 0
  have l1 : w5.cell? ⟨w.heap.size + 1, 1, none⟩ = some (.string (str b.s)) := hrb.cell 1
  have l2 : w5.cell? ⟨w.heap.size + 1, 2, none⟩ = some (.int .i64 b.v.kind) := hrb.cell 2
  have l3 : w5.cell? ⟨w.heap.size + 1, 3, none⟩ = some (.int .i64 b.v.n) := hrb.cell 3
  have l4 : w5.cell? ⟨w.heap.size + 1, 4, none⟩ = some (.string (str b.v.s)) := hrb.cell 4
  have l5 : w5.cell? ⟨w.heap.size + 1, 5, none⟩ = some (.slice Ab b.args.length cb) := hrb.cell 5
  have m0 : w5.cell? ⟨w.heap.size + 2, 0, none⟩ = some (.int .i64 c.kind) := hrc'.cell 0
  have m1 : w5.cell? ⟨w.heap.size + 2, 1, none⟩ = some (.string (str c.s)) := hrc'.cell 1
  have m2 : w5.cell? ⟨w.heap.size + 2, 2, none⟩ = some (.int .i64 c.v.kind) := hrc'.cell 2
  have m3 : w5.cell? ⟨w.heap.size + 2, 3, none⟩ = some (.int .i64 c.v.n) := hrc'.cell 3
  have m4 : w5.cell? ⟨w.heap.size + 2, 4, none⟩ = some (.string (str c.v.s)) := hrc'.cell 4
  have m5 : w5.cell? ⟨w.heap.size + 2, 5, none⟩ = some (.slice Ac c.args.length cc) := hrc'.cell 5
  have zc := hrc'.lt
  have Hra := Lib.hid hra
  have Hrb := Lib.hid hrb
  have Hrc := Lib.hid hrc'
  clear hra hrb hrc'
  have hl1 := Hdeb.out (by have := Hzb.out; omega) w5 (Hvb.out.keepAll HS5.out)
  go_wp2_with (go_at_call 19; refine stopAt ?_)
  unfold Hid
  refine hl1.mono ?_
  rintro e' w6 ⟨rfl, hS⟩
  have HS6 := Lib.hid (HS5.out.trans hS)
  have hra := Hra.out.keep hS trivial
  have hrb := Hrb.out.keep hS trivial
  have hrc' := Hrc.out.keep hS trivial
  clear Hra Hrb Hrc
  clear hS hl1 zc k0 k1 k2 k3 k4 k5 l0 l1 l2 l3 l4 l5 m0 m1 m2 m3 m4 m5
  by_cases hd50 : 50 < Db
  · have x2 : (50 : Int) < (Db : Int) := by omega
    clear hd50
    go_wp2
    go_ret
    exact ⟨rfl, HS6.out⟩
  have yb : (Db : Int) ≤ 50 := by omega
  clear hd50
  have k0 : w6.cell? ⟨w.heap.size, 0, none⟩ = some (.int .i64 a.kind) := hra.cell 0
  have k1 : w6.cell? ⟨w.heap.size, 1, none⟩ = some (.string (str a.s)) := hra.cell 1
  have k2 : w6.cell? ⟨w.heap.size, 2, none⟩ = some (.int .i64 a.v.kind) := hra.cell 2
  have k3 : w6.cell? ⟨w.heap.size, 3, none⟩ = some (.int .i64 a.v.n) := hra.cell 3
  have k4 : w6.cell? ⟨w.heap.size, 4, none⟩ = some (.string (str a.v.s)) := hra.cell 4
  have k5 : w6.cell? ⟨w.heap.size, 5, none⟩ = some (.slice Aa a.args.length ca) := hra.cell 5
  have l0 : w6.cell? ⟨w.heap.size + 1, 0, none⟩ = some (.int .i64 b.kind) := hrb.cell 0
  have l1 : w6.cell? ⟨w.heap.size + 1, 1, none⟩ = some (.string (str b.s)) := hrb.cell 1
  have l2 : w6.cell? ⟨w.heap.size + 1, 2, none⟩ = some (.int .i64 b.v.kind) := hrb.cell 2
  have l3 : w6.cell? ⟨w.heap.size + 1, 3, none⟩ = some (.int .i64 b.v.n) := hrb.cell 3
  have l4 : w6.cell? ⟨w.heap.size + 1, 4, none⟩ = some (.string (str b.v.s)) := hrb.cell 4
  have l5 : w6.cell? ⟨w.heap.size + 1, 5, none⟩ = some (.slice Ab b.args.length cb) := hrb.cell 5
  have m0 : w6.cell? ⟨w.heap.size + 2, 0, none⟩ = some (.int .i64 c.kind) := hrc'.cell 0
  have m1 : w6.cell? ⟨w.heap.size + 2, 1, none⟩ = some (.string (str c.s)) := hrc'.cell 1
  have m2 : w6.cell? ⟨w.heap.size + 2, 2, none⟩ = some (.int .i64 c.v.kind) := hrc'.cell 2
  have m3 : w6.cell? ⟨w.heap.size + 2, 3, none⟩ = some (.int .i64 c.v.n) := hrc'.cell 3
  have m4 : w6.cell? ⟨w.heap.size + 2, 4, none⟩ = some (.string (str c.v.s)) := hrc'.cell 4
  have m5 : w6.cell? ⟨w.heap.size + 2, 5, none⟩ = some (.slice Ac c.args.length cc) := hrc'.cell 5
  have zc := hrc'.lt
  have Hra := Lib.hid hra
  have Hrb := Lib.hid hrb
  have Hrc := Lib.hid hrc'
  clear hra hrb hrc'
  have hl1 := Hdec.out (by have := Hzc.out; omega) w6 (Hvc.out.keepAll HS6.out)
  go_wp2_with (go_at_call 19; refine stopAt ?_)
  unfold Hid
  refine hl1.mono ?_
  rintro e' w7 ⟨rfl, hS⟩
  have HS7 := Lib.hid (HS6.out.trans hS)
  have hra := Hra.out.keep hS trivial
  have hrb := Hrb.out.keep hS trivial
  have hrc' := Hrc.out.keep hS trivial
  clear Hra Hrb Hrc
  clear hS hl1 zc k0 k1 k2 k3 k4 k5 l0 l1 l2 l3 l4 l5 m0 m1 m2 m3 m4 m5
  by_cases hd50 : 50 < Dc
  · have x2 : (50 : Int) < (Dc : Int) := by omega
    clear hd50
    go_wp2
    go_ret
    exact ⟨rfl, HS7.out⟩
  have yc : (Dc : Int) ≤ 50 := by omega
  clear hd50
  have hLF := HLF.out (by omega) (by omega) (by omega) Hza.out Hzb.out Hzc.out
  clear HLF
  simp only [notT, andT, orT, opE] at hLF
  have evX := fun (W : World) (t rv : Value) (h2 : TreeVal W t (.mk 3 [78, 79, 84] .zero [(.mk 3 [65, 78, 68] .zero [a, b])])) (h3 : VaR W (fun _ => True) rv row) => valuew_any t rv row (.mk 3 [78, 79, 84] .zero [(.mk 3 [65, 78, 68] .zero [a, b])]) W h2 h3 (by have := Hza.out; have := Hzb.out; have := Hzc.out; simp only [Ex.size, sizeL]; omega) (.one _ (.two _ Hia.out Hib.out)) Hri.out
  obtain ⟨X, hX⟩ : ∃ X, evalTF cols3 row (.mk 3 [78, 79, 84] .zero [(.mk 3 [65, 78, 68] .zero [a, b])]) = X := ⟨_, rfl⟩
  rw [hX] at evX hLF
  have EvX := Lib.hid evX
  clear hX evX
  have evY := fun (W : World) (t rv : Value) (h2 : TreeVal W t (.mk 3 [79, 82] .zero [(.mk 3 [78, 79, 84] .zero [a]), (.mk 3 [78, 79, 84] .zero [b])])) (h3 : VaR W (fun _ => True) rv row) => valuew_any t rv row (.mk 3 [79, 82] .zero [(.mk 3 [78, 79, 84] .zero [a]), (.mk 3 [78, 79, 84] .zero [b])]) W h2 h3 (by have := Hza.out; have := Hzb.out; have := Hzc.out; simp only [Ex.size, sizeL]; omega) (.two _ (.one _ Hia.out) (.one _ Hib.out)) Hri.out
  obtain ⟨Y, hY⟩ : ∃ X, evalTF cols3 row (.mk 3 [79, 82] .zero [(.mk 3 [78, 79, 84] .zero [a]), (.mk 3 [78, 79, 84] .zero [b])]) = X := ⟨_, rfl⟩
  rw [hY] at evY hLF
  have EvY := Lib.hid evY
  clear hY evY
  have evZ := fun (W : World) (t rv : Value) (h2 : TreeVal W t (.mk 3 [78, 79, 84] .zero [(.mk 3 [78, 79, 84] .zero [a])])) (h3 : VaR W (fun _ => True) rv row) => valuew_any t rv row (.mk 3 [78, 79, 84] .zero [(.mk 3 [78, 79, 84] .zero [a])]) W h2 h3 (by have := Hza.out; have := Hzb.out; have := Hzc.out; simp only [Ex.size, sizeL]; omega) (.one _ (.one _ Hia.out)) Hri.out
  obtain ⟨Z, hZ⟩ : ∃ X, evalTF cols3 row (.mk 3 [78, 79, 84] .zero [(.mk 3 [78, 79, 84] .zero [a])]) = X := ⟨_, rfl⟩
  rw [hZ] at evZ hLF
  have EvZ := Lib.hid evZ
  clear hZ evZ
  have evV := fun (W : World) (t rv : Value) (h2 : TreeVal W t a) (h3 : VaR W (fun _ => True) rv row) => valuew_any t rv row a W h2 h3 (by have := Hza.out; have := Hzb.out; have := Hzc.out; omega) (Hia.out) Hri.out
  obtain ⟨V, hV⟩ : ∃ X, evalTF cols3 row a = X := ⟨_, rfl⟩
  rw [hV] at evV hLF
  have EvV := Lib.hid evV
  clear hV evV
  have evP := fun (W : World) (t rv : Value) (h2 : TreeVal W t (.mk 3 [65, 78, 68] .zero [a, (.mk 3 [79, 82] .zero [b, c])])) (h3 : VaR W (fun _ => True) rv row) => valuew_any t rv row (.mk 3 [65, 78, 68] .zero [a, (.mk 3 [79, 82] .zero [b, c])]) W h2 h3 (by have := Hza.out; have := Hzb.out; have := Hzc.out; simp only [Ex.size, sizeL]; omega) (.two _ Hia.out (.two _ Hib.out Hic.out)) Hri.out
  obtain ⟨P, hP⟩ : ∃ X, evalTF cols3 row (.mk 3 [65, 78, 68] .zero [a, (.mk 3 [79, 82] .zero [b, c])]) = X := ⟨_, rfl⟩
  rw [hP] at evP hLF
  have EvP := Lib.hid evP
  clear hP evP
  have evQ := fun (W : World) (t rv : Value) (h2 : TreeVal W t (.mk 3 [79, 82] .zero [(.mk 3 [65, 78, 68] .zero [a, b]), (.mk 3 [65, 78, 68] .zero [a, c])])) (h3 : VaR W (fun _ => True) rv row) => valuew_any t rv row (.mk 3 [79, 82] .zero [(.mk 3 [65, 78, 68] .zero [a, b]), (.mk 3 [65, 78, 68] .zero [a, c])]) W h2 h3 (by have := Hza.out; have := Hzb.out; have := Hzc.out; simp only [Ex.size, sizeL]; omega) (.two _ (.two _ Hia.out Hib.out) (.two _ Hia.out Hic.out)) Hri.out
  obtain ⟨Q, hQ⟩ : ∃ X, evalTF cols3 row (.mk 3 [79, 82] .zero [(.mk 3 [65, 78, 68] .zero [a, b]), (.mk 3 [65, 78, 68] .zero [a, c])]) = X := ⟨_, rfl⟩
  rw [hQ] at evQ hLF
  have EvQ := Lib.hid evQ
  clear hQ evQ
  have evL := fun (W : World) (t rv : Value) (h2 : TreeVal W t (.mk 3 [78, 79, 84] .zero [a])) (h3 : VaR W (fun _ => True) rv row) => valuew_any t rv row (.mk 3 [78, 79, 84] .zero [a]) W h2 h3 (by have := Hza.out; have := Hzb.out; have := Hzc.out; simp only [Ex.size, sizeL]; omega) (.one _ Hia.out) Hri.out
  obtain ⟨L, hL⟩ : ∃ X, evalTF cols3 row (.mk 3 [78, 79, 84] .zero [a]) = X := ⟨_, rfl⟩
  rw [hL] at evL hLF
  have EvL := Lib.hid evL
  clear hL evL
  have HLF := Lib.hid hLF
  clear hLF
  have k0 : w7.cell? ⟨w.heap.size, 0, none⟩ = some (.int .i64 a.kind) := hra.cell 0
  have k1 : w7.cell? ⟨w.heap.size, 1, none⟩ = some (.string (str a.s)) := hra.cell 1
  have k2 : w7.cell? ⟨w.heap.size, 2, none⟩ = some (.int .i64 a.v.kind) := hra.cell 2
  have k3 : w7.cell? ⟨w.heap.size, 3, none⟩ = some (.int .i64 a.v.n) := hra.cell 3
  have k4 : w7.cell? ⟨w.heap.size, 4, none⟩ = some (.string (str a.v.s)) := hra.cell 4
  have k5 : w7.cell? ⟨w.heap.size, 5, none⟩ = some (.slice Aa a.args.length ca) := hra.cell 5
  have l0 : w7.cell? ⟨w.heap.size + 1, 0, none⟩ = some (.int .i64 b.kind) := hrb.cell 0
  have l1 : w7.cell? ⟨w.heap.size + 1, 1, none⟩ = some (.string (str b.s)) := hrb.cell 1
  have l2 : w7.cell? ⟨w.heap.size + 1, 2, none⟩ = some (.int .i64 b.v.kind) := hrb.cell 2
  have l3 : w7.cell? ⟨w.heap.size + 1, 3, none⟩ = some (.int .i64 b.v.n) := hrb.cell 3
  have l4 : w7.cell? ⟨w.heap.size + 1, 4, none⟩ = some (.string (str b.v.s)) := hrb.cell 4
  have l5 : w7.cell? ⟨w.heap.size + 1, 5, none⟩ = some (.slice Ab b.args.length cb) := hrb.cell 5
  have m0 : w7.cell? ⟨w.heap.size + 2, 0, none⟩ = some (.int .i64 c.kind) := hrc'.cell 0
  have m1 : w7.cell? ⟨w.heap.size + 2, 1, none⟩ = some (.string (str c.s)) := hrc'.cell 1
  have m2 : w7.cell? ⟨w.heap.size + 2, 2, none⟩ = some (.int .i64 c.v.kind) := hrc'.cell 2
  have m3 : w7.cell? ⟨w.heap.size + 2, 3, none⟩ = some (.int .i64 c.v.n) := hrc'.cell 3
  have m4 : w7.cell? ⟨w.heap.size + 2, 4, none⟩ = some (.string (str c.v.s)) := hrc'.cell 4
  have m5 : w7.cell? ⟨w.heap.size + 2, 5, none⟩ = some (.slice Ac c.args.length cc) := hrc'.cell 5
  have zc := hrc'.lt
  have Hra := Lib.hid hra
  have Hrb := Lib.hid hrb
  have Hrc := Lib.hid hrc'
  clear hra hrb hrc'
  have Hc0 : Hid (Same (fun _ => True) w7 w7) := Lib.hid (Same.refl _ _)
  go_wp2_with (go_at_call 21; refine stopAt ?_)
  unfold Hid
  refine (op_v _ [65, 78, 68] [a,b] _ (ExL.fresh2 w7 (Hva.out.keepAll (HS7.out.trans Hc0.out)) (Hvb.out.keepAll (HS7.out.trans Hc0.out)))).mono ?_
  rintro e' q0_0 ⟨_, rfl, ⟨u0, rfl, ht⟩, hS⟩
  have Ht0 := Lib.hid ht
  have Hc1 : Hid (Same (fun _ => True) w7 q0_0) := Lib.hid ((Hc0.out.alloc _).trans hS)
  clear ht hS
  go_wp2_with (go_at_call 21; refine stopAt ?_)
  unfold Hid
  refine (op_v _ [78, 79, 84] [(.mk 3 [65, 78, 68] .zero [a,b])] _ (ExL.fresh1 q0_0 Ht0.out)).mono ?_
  rintro e' q0_1 ⟨_, rfl, ⟨u1, rfl, ht⟩, hS⟩
  have Ht1 := Lib.hid ht
  have Hc2 : Hid (Same (fun _ => True) w7 q0_1) := Lib.hid ((Hc1.out.alloc _).trans hS)
  clear ht hS
  go_wp2_with (go_at_call 20; refine stopAt ?_)
  unfold Hid
  refine (EvX.out _ _ _ ⟨_, rfl, Ht1.out⟩ (RowR.keepAll Hrow.out (HS7.out.trans Hc2.out))).mono ?_
  rintro e' v0 ⟨rfl, hS⟩
  have hS9 := Hc2.out.trans hS
  have hSb := (Same.refl (fun _ => True) v0).alloc (.cells (valCs X.1).toArray 23)
  have hr0 := Row.new v0 23 (valCs X.1)
  obtain ⟨W0, hW⟩ : ∃ W, W = v0.alloc (.cells (valCs X.1).toArray 23) := ⟨_, rfl⟩
  have e0 := hW
  rw [← hW] at hSb hr0
  simp only [valCs] at e0
  have HE0 := Lib.hid e0
  have hS := hS9.trans hSb
  clear e0 hW hS9 hSb
  go_upto_region 6 with (fail)
  rw [← HE0.out]
  clear HE0
  generalize v0.heap.size = g0 at *
  have hra := Hra.out.keep hS trivial
  have hrb := Hrb.out.keep hS trivial
  have hrc' := Hrc.out.keep hS trivial
  clear Hra Hrb Hrc
  have HT0 := Lib.hid (HS7.out.trans hS)
  clear hS zc EvX k0 k1 k2 k3 k4 k5 l0 l1 l2 l3 l4 l5 m0 m1 m2 m3 m4 m5 Hc0 Hc1 Hc2
  have Hr0 := Lib.hid hr0
  clear hr0
  have k0 : W0.cell? ⟨w.heap.size, 0, none⟩ = some (.int .i64 a.kind) := hra.cell 0
  have k1 : W0.cell? ⟨w.heap.size, 1, none⟩ = some (.string (str a.s)) := hra.cell 1
  have k2 : W0.cell? ⟨w.heap.size, 2, none⟩ = some (.int .i64 a.v.kind) := hra.cell 2
  have k3 : W0.cell? ⟨w.heap.size, 3, none⟩ = some (.int .i64 a.v.n) := hra.cell 3
  have k4 : W0.cell? ⟨w.heap.size, 4, none⟩ = some (.string (str a.v.s)) := hra.cell 4
  have k5 : W0.cell? ⟨w.heap.size, 5, none⟩ = some (.slice Aa a.args.length ca) := hra.cell 5
  have l0 : W0.cell? ⟨w.heap.size + 1, 0, none⟩ = some (.int .i64 b.kind) := hrb.cell 0
  have l1 : W0.cell? ⟨w.heap.size + 1, 1, none⟩ = some (.string (str b.s)) := hrb.cell 1
  have l2 : W0.cell? ⟨w.heap.size + 1, 2, none⟩ = some (.int .i64 b.v.kind) := hrb.cell 2
  have l3 : W0.cell? ⟨w.heap.size + 1, 3, none⟩ = some (.int .i64 b.v.n) := hrb.cell 3
  have l4 : W0.cell? ⟨w.heap.size + 1, 4, none⟩ = some (.string (str b.v.s)) := hrb.cell 4
  have l5 : W0.cell? ⟨w.heap.size + 1, 5, none⟩ = some (.slice Ab b.args.length cb) := hrb.cell 5
  have m0 : W0.cell? ⟨w.heap.size + 2, 0, none⟩ = some (.int .i64 c.kind) := hrc'.cell 0
  have m1 : W0.cell? ⟨w.heap.size + 2, 1, none⟩ = some (.string (str c.s)) := hrc'.cell 1
  have m2 : W0.cell? ⟨w.heap.size + 2, 2, none⟩ = some (.int .i64 c.v.kind) := hrc'.cell 2
  have m3 : W0.cell? ⟨w.heap.size + 2, 3, none⟩ = some (.int .i64 c.v.n) := hrc'.cell 3
  have m4 : W0.cell? ⟨w.heap.size + 2, 4, none⟩ = some (.string (str c.v.s)) := hrc'.cell 4
  have m5 : W0.cell? ⟨w.heap.size + 2, 5, none⟩ = some (.slice Ac c.args.length cc) := hrc'.cell 5
  have zc := hrc'.lt
  have Hra := Lib.hid hra
  have Hrb := Lib.hid hrb
  have Hrc := Lib.hid hrc'
  clear hra hrb hrc'
  go_wp2
  go_upto_region 6 with (fail)
  go_cut [11, 12] from 69 to 81 (fun vA vB wx => ∃ (W1 : World) (g : Nat), W1 = wx ∧ vA = .pointer (some ⟨g, 0, none⟩) ∧ vB = .bool (decide (Y.2 = 0)) ∧ W0.heap.size ≤ g ∧ Row W1 g 23 (valCs Y.1) ∧ Same (fun _ => True) W0 W1)
  case first =>
    refine wp_region_tail_d (L := [.eq (exV (.slice Aa a.args.length ca) a), .of (.exl [a]), .of (.tree (.mk 3 [78, 79, 84] .zero [a])), .eq (exV (.slice Ab b.args.length cb) b), .of (.exl [b]), .of (.tree (.mk 3 [78, 79, 84] .zero [b])), .of (.exl [(.mk 3 [78, 79, 84] .zero [a]), (.mk 3 [78, 79, 84] .zero [b])]), .of (.tree (.mk 3 [79, 82] .zero [(.mk 3 [78, 79, 84] .zero [a]), (.mk 3 [78, 79, 84] .zero [b])])), .eq (.slice Ar row.length cr), .eq (.tuple #[valV Y.1, .bool (decide (Y.2 = 0))]), .eq (.tuple #[valV Y.1, .bool (decide (Y.2 = 0))]), .eq (valV Y.1), .eq (.bool (decide (Y.2 = 0))), .of (.fresh W0.heap.size 23 (valCs .zero))]) 14 12 (by omega) (by kernel_rfl) (by kernel_rfl) rfl rfl rfl rfl rfl rfl ?_ ?_ ?_
    · refine ⟨?_, ?_, ?_, ?_, ?_, ?_, ?_, ?_, ?_, ?_, ?_, ?_, ?_, ?_, trivial⟩
      · intro ac wc hs hd hz hf hw K hK
        have e0 : ac.eval (.tmp 4) = (.pointer (some ⟨w.heap.size, 0, none⟩)) := hf 4 rfl
        have m0 : wc.cell? ⟨w.heap.size, 0, none⟩ = some (.int .i64 a.kind) := hs.cell (p := ⟨w.heap.size, 0, none⟩) trivial k0
        have m1 : wc.cell? ⟨w.heap.size, 1, none⟩ = some (.string (str a.s)) := hs.cell (p := ⟨w.heap.size, 1, none⟩) trivial k1
        have m2 : wc.cell? ⟨w.heap.size, 2, none⟩ = some (.int .i64 a.v.kind) := hs.cell (p := ⟨w.heap.size, 2, none⟩) trivial k2
        have m3 : wc.cell? ⟨w.heap.size, 3, none⟩ = some (.int .i64 a.v.n) := hs.cell (p := ⟨w.heap.size, 3, none⟩) trivial k3
        have m4 : wc.cell? ⟨w.heap.size, 4, none⟩ = some (.string (str a.v.s)) := hs.cell (p := ⟨w.heap.size, 4, none⟩) trivial k4
        have m5 : wc.cell? ⟨w.heap.size, 5, none⟩ = some (.slice Aa a.args.length ca) := hs.cell (p := ⟨w.heap.size, 5, none⟩) trivial k5
        clear hd hz hf hw
        simp only [Region.wanted, if_true, Oper.wp, execOp, resolve, List.map_toArray, List.map_cons, List.map_nil, Option.map_some, Option.map_none, e0]
        go_simp
        exact hK _ _ rfl (Same.refl _ _)
      · intro ac wc hs hd hz hf hw K hK
        have e0 : ac.eval (.tmp 70) = (exV (.slice Aa a.args.length ca) a) := hw 0 rfl
        clear hd hz hf hw
        simp only [Region.wanted, if_true, Oper.wp, execOp, resolve, List.map_toArray, List.map_cons, List.map_nil, Option.map_some, Option.map_none, e0]
        go_simp
        exact hK _ _ (ExL.fresh1 wc (Hva.out.keepAll (HT0.out.trans hs))) ((Same.refl _ _).alloc _)
      · intro ac wc hs hd hz hf hw K hK
        have p0 : ((.exl [a]) : SP).p (ac.eval (.tmp 71)) wc := hw 1 rfl
        obtain ⟨u0, e0⟩ : ∃ u, ac.eval (.tmp 71) = u := ⟨_, rfl⟩
        rw [e0] at p0
        clear hd hz hf hw
        simp only [Region.wanted, if_true, Oper.wp, execOp, resolve, List.map_toArray, List.map_cons, List.map_nil, Option.map_some, Option.map_none, e0]
        go_simp
        refine (op_v _ [78, 79, 84] _ _ p0).mono ?_
        rintro e wd ⟨vt, rfl, ht9, hs9⟩
        exact hK _ _ ht9 hs9
      · intro ac wc hs hd hz hf hw K hK
        have e0 : ac.eval (.tmp 5) = (.pointer (some ⟨w.heap.size + 1, 0, none⟩)) := hf 5 rfl
        have m0 : wc.cell? ⟨w.heap.size + 1, 0, none⟩ = some (.int .i64 b.kind) := hs.cell (p := ⟨w.heap.size + 1, 0, none⟩) trivial l0
        have m1 : wc.cell? ⟨w.heap.size + 1, 1, none⟩ = some (.string (str b.s)) := hs.cell (p := ⟨w.heap.size + 1, 1, none⟩) trivial l1
        have m2 : wc.cell? ⟨w.heap.size + 1, 2, none⟩ = some (.int .i64 b.v.kind) := hs.cell (p := ⟨w.heap.size + 1, 2, none⟩) trivial l2
        have m3 : wc.cell? ⟨w.heap.size + 1, 3, none⟩ = some (.int .i64 b.v.n) := hs.cell (p := ⟨w.heap.size + 1, 3, none⟩) trivial l3
        have m4 : wc.cell? ⟨w.heap.size + 1, 4, none⟩ = some (.string (str b.v.s)) := hs.cell (p := ⟨w.heap.size + 1, 4, none⟩) trivial l4
        have m5 : wc.cell? ⟨w.heap.size + 1, 5, none⟩ = some (.slice Ab b.args.length cb) := hs.cell (p := ⟨w.heap.size + 1, 5, none⟩) trivial l5
        clear hd hz hf hw
        simp only [Region.wanted, if_true, Oper.wp, execOp, resolve, List.map_toArray, List.map_cons, List.map_nil, Option.map_some, Option.map_none, e0]
        go_simp
        exact hK _ _ rfl (Same.refl _ _)
      · intro ac wc hs hd hz hf hw K hK
        have e0 : ac.eval (.tmp 73) = (exV (.slice Ab b.args.length cb) b) := hw 3 rfl
        clear hd hz hf hw
        simp only [Region.wanted, if_true, Oper.wp, execOp, resolve, List.map_toArray, List.map_cons, List.map_nil, Option.map_some, Option.map_none, e0]
        go_simp
        exact hK _ _ (ExL.fresh1 wc (Hvb.out.keepAll (HT0.out.trans hs))) ((Same.refl _ _).alloc _)
      · intro ac wc hs hd hz hf hw K hK
        have p0 : ((.exl [b]) : SP).p (ac.eval (.tmp 74)) wc := hw 4 rfl
        obtain ⟨u0, e0⟩ : ∃ u, ac.eval (.tmp 74) = u := ⟨_, rfl⟩
        rw [e0] at p0
        clear hd hz hf hw
        simp only [Region.wanted, if_true, Oper.wp, execOp, resolve, List.map_toArray, List.map_cons, List.map_nil, Option.map_some, Option.map_none, e0]
        go_simp
        refine (op_v _ [78, 79, 84] _ _ p0).mono ?_
        rintro e wd ⟨vt, rfl, ht9, hs9⟩
        exact hK _ _ ht9 hs9
      · intro ac wc hs hd hz hf hw K hK
        have p0 : ((.tree (.mk 3 [78, 79, 84] .zero [a])) : SP).p (ac.eval (.tmp 72)) wc := hw 2 rfl
        obtain ⟨u0, e0⟩ : ∃ u, ac.eval (.tmp 72) = u := ⟨_, rfl⟩
        rw [e0] at p0
        have p1 : ((.tree (.mk 3 [78, 79, 84] .zero [b])) : SP).p (ac.eval (.tmp 75)) wc := hw 5 rfl
        obtain ⟨u1, e1⟩ : ∃ u, ac.eval (.tmp 75) = u := ⟨_, rfl⟩
        rw [e1] at p1
        clear hd hz hf hw
        simp only [Region.wanted, if_true, Oper.wp, execOp, resolve, List.map_toArray, List.map_cons, List.map_nil, Option.map_some, Option.map_none, e0, e1]
        go_simp
        obtain ⟨w0, rfl, h0⟩ := p0
        obtain ⟨w1, rfl, h1⟩ := p1
        go_simp
        exact hK _ _ (ExL.fresh2 wc h0 h1) ((Same.refl _ _).alloc _)
      · intro ac wc hs hd hz hf hw K hK
        have p0 : ((.exl [(.mk 3 [78, 79, 84] .zero [a]), (.mk 3 [78, 79, 84] .zero [b])]) : SP).p (ac.eval (.tmp 76)) wc := hw 6 rfl
        obtain ⟨u0, e0⟩ : ∃ u, ac.eval (.tmp 76) = u := ⟨_, rfl⟩
        rw [e0] at p0
        clear hd hz hf hw
        simp only [Region.wanted, if_true, Oper.wp, execOp, resolve, List.map_toArray, List.map_cons, List.map_nil, Option.map_some, Option.map_none, e0]
        go_simp
        refine (op_v _ [79, 82] _ _ p0).mono ?_
        rintro e wd ⟨vt, rfl, ht9, hs9⟩
        exact hK _ _ ht9 hs9
      · intro ac wc hs hd hz hf hw K hK
        have e0 : ac.eval (.tmp 3) = (.slice Ar row.length cr) := hf 3 rfl
        clear hd hz hf hw
        simp only [Region.wanted, if_true, Oper.wp, execOp, resolve, List.map_toArray, List.map_cons, List.map_nil, Option.map_some, Option.map_none, e0]
        go_simp
        exact hK _ _ rfl (Same.refl _ _)
      · intro ac wc hs hd hz hf hw K hK
        have p0 : ((.tree (.mk 3 [79, 82] .zero [(.mk 3 [78, 79, 84] .zero [a]), (.mk 3 [78, 79, 84] .zero [b])])) : SP).p (ac.eval (.tmp 77)) wc := hw 7 rfl
        obtain ⟨u0, e0⟩ : ∃ u, ac.eval (.tmp 77) = u := ⟨_, rfl⟩
        rw [e0] at p0
        have e1 : ac.eval (.tmp 78) = (.slice Ar row.length cr) := hw 8 rfl
        clear hd hz hf hw
        simp only [Region.wanted, if_true, Oper.wp, execOp, resolve, List.map_toArray, List.map_cons, List.map_nil, Option.map_some, Option.map_none, e0, e1]
        go_simp
        refine (EvY.out _ _ _ p0 (RowR.keepAll Hrow.out (HT0.out.trans hs))).mono ?_
        rintro e wd ⟨rfl, hs2⟩
        exact hK _ _ rfl hs2
      · intro ac wc hs hd hz hf hw K hK
        have e0 : ac.eval (.tmp 79) = (.tuple #[valV Y.1, .bool (decide (Y.2 = 0))]) := hw 9 rfl
        clear hd hz hf hw
        simp only [Region.wanted, if_true, Oper.wp, execOp, resolve, List.map_toArray, List.map_cons, List.map_nil, Option.map_some, Option.map_none, e0]
        go_simp
        exact hK _ _ rfl (Same.refl _ _)
      · intro ac wc hs hd hz hf hw K hK
        have e0 : ac.eval (.tmp 69) = (.tuple #[valV Y.1, .bool (decide (Y.2 = 0))]) := hw 10 rfl
        clear hd hz hf hw
        simp only [Region.wanted, if_true, Oper.wp, execOp, resolve, List.map_toArray, List.map_cons, List.map_nil, Option.map_some, Option.map_none, e0]
        go_simp
        exact hK _ _ rfl (Same.refl _ _)
      · intro ac wc hs hd hz hf hw K hK
        have e0 : ac.eval (.tmp 69) = (.tuple #[valV Y.1, .bool (decide (Y.2 = 0))]) := hw 10 rfl
        clear hd hz hf hw
        simp only [Region.wanted, if_true, Oper.wp, execOp, resolve, List.map_toArray, List.map_cons, List.map_nil, Option.map_some, Option.map_none, e0]
        go_simp
        exact hK _ _ rfl (Same.refl _ _)
      · intro ac wc hs hd hz hf hw K hK
        clear hd hz hf hw
        simp only [Region.wanted, if_true, Oper.wp, execOp, resolve, List.map_toArray, List.map_cons, List.map_nil, Option.map_some, Option.map_none]
        go_simp
        exact hK _ _ ⟨_, rfl, hs.size, Row.new wc _ (valCs .zero)⟩ ((Same.refl _ _).alloc _)
    · intro vs wR hvl hvp hsR
      rcases vs with _ | ⟨z0, _ | ⟨z1, _ | ⟨z2, _ | ⟨z3, _ | ⟨z4, _ | ⟨z5, _ | ⟨z6, _ | ⟨z7, _ | ⟨z8, _ | ⟨z9, _ | ⟨z10, _ | ⟨z11, _ | ⟨z12, _ | ⟨z13, _ | ⟨zz, zr⟩⟩⟩⟩⟩⟩⟩⟩⟩⟩⟩⟩⟩⟩⟩
      rotate_right 1
      · simp at hvl
      · simp at hvl
      · simp at hvl
      · simp at hvl
      · simp at hvl
      · simp at hvl
      · simp at hvl
      · simp at hvl
      · simp at hvl
      · simp at hvl
      · simp at hvl
      · simp at hvl
      · simp at hvl
      · simp at hvl
      · simp at hvl
      · obtain rfl : z0 = (exV (.slice Aa a.args.length ca) a) := hvp 0 (by omega)
        have hsl71 : ((.exl [a]) : SP).p z1 wR := hvp 1 (by omega)
        have htr72 : ((.tree (.mk 3 [78, 79, 84] .zero [a])) : SP).p z2 wR := hvp 2 (by omega)
        obtain rfl : z3 = (exV (.slice Ab b.args.length cb) b) := hvp 3 (by omega)
        have hsl74 : ((.exl [b]) : SP).p z4 wR := hvp 4 (by omega)
        have htr75 : ((.tree (.mk 3 [78, 79, 84] .zero [b])) : SP).p z5 wR := hvp 5 (by omega)
        have hsl76 : ((.exl [(.mk 3 [78, 79, 84] .zero [a]), (.mk 3 [78, 79, 84] .zero [b])]) : SP).p z6 wR := hvp 6 (by omega)
        have htr77 : ((.tree (.mk 3 [79, 82] .zero [(.mk 3 [78, 79, 84] .zero [a]), (.mk 3 [78, 79, 84] .zero [b])])) : SP).p z7 wR := hvp 7 (by omega)
        obtain rfl : z8 = (.slice Ar row.length cr) := hvp 8 (by omega)
        obtain rfl : z9 = (.tuple #[valV Y.1, .bool (decide (Y.2 = 0))]) := hvp 9 (by omega)
        obtain rfl : z10 = (.tuple #[valV Y.1, .bool (decide (Y.2 = 0))]) := hvp 10 (by omega)
        obtain rfl : z11 = (valV Y.1) := hvp 11 (by omega)
        obtain rfl : z12 = (.bool (decide (Y.2 = 0))) := hvp 12 (by omega)
        have hfr : ((.fresh W0.heap.size 23 (valCs .zero)) : SP).p z13 wR := hvp 13 (by omega)
        clear hvl hvp
        simp only [putAll, Act.put, List.setIfInBounds_toArray, List.set_cons_succ, List.set_cons_zero, List.take_succ_cons, List.take_zero, List.drop_succ_cons, List.drop_zero, List.eraseIdx_cons_succ, List.eraseIdx_cons_zero]
        obtain ⟨g, rfl, hg, hrg⟩ := hfr
        have y0 : wR.cell? ⟨g, 0, none⟩ = some (.int .i64 0) := hrg.cell 0
        have y1 : wR.cell? ⟨g, 1, none⟩ = some (.int .i64 0) := hrg.cell 1
        have y2 : wR.cell? ⟨g, 2, none⟩ = some (.string (str [])) := hrg.cell 2
        have x0 : wR.frozen? ⟨g, 0, none⟩ = false := hrg.frozen 0
        have x1 : wR.frozen? ⟨g, 1, none⟩ = false := hrg.frozen 1
        have x2 : wR.frozen? ⟨g, 2, none⟩ = false := hrg.frozen 2
        have Hrg := Lib.hid hrg
        have HsR := Lib.hid hsR
        have zG := hrg.lt
        clear hsR hrg 
        go_wp2
        go_meet
        exact ⟨_, g, rfl, rfl, rfl, hg, Hrg.out.set3 _, HsR.out.set3 (fun h => by omega) _ _ _⟩
    · intro vs wR hvl hvp hsR
      rcases vs with _ | ⟨z0, _ | ⟨z1, _ | ⟨z2, _ | ⟨z3, _ | ⟨z4, _ | ⟨z5, _ | ⟨z6, _ | ⟨z7, _ | ⟨z8, _ | ⟨z9, _ | ⟨z10, _ | ⟨z11, _ | ⟨z13, _ | ⟨zz, zr⟩⟩⟩⟩⟩⟩⟩⟩⟩⟩⟩⟩⟩⟩
      rotate_right 1
      · simp at hvl
      · simp at hvl
      · simp at hvl
      · simp at hvl
      · simp at hvl
      · simp at hvl
      · simp at hvl
      · simp at hvl
      · simp at hvl
      · simp at hvl
      · simp at hvl
      · simp at hvl
      · simp at hvl
      · simp at hvl
      · obtain rfl : z0 = (exV (.slice Aa a.args.length ca) a) := hvp 0 (by omega)
        have hsl71 : ((.exl [a]) : SP).p z1 wR := hvp 1 (by omega)
        have htr72 : ((.tree (.mk 3 [78, 79, 84] .zero [a])) : SP).p z2 wR := hvp 2 (by omega)
        obtain rfl : z3 = (exV (.slice Ab b.args.length cb) b) := hvp 3 (by omega)
        have hsl74 : ((.exl [b]) : SP).p z4 wR := hvp 4 (by omega)
        have htr75 : ((.tree (.mk 3 [78, 79, 84] .zero [b])) : SP).p z5 wR := hvp 5 (by omega)
        have hsl76 : ((.exl [(.mk 3 [78, 79, 84] .zero [a]), (.mk 3 [78, 79, 84] .zero [b])]) : SP).p z6 wR := hvp 6 (by omega)
        have htr77 : ((.tree (.mk 3 [79, 82] .zero [(.mk 3 [78, 79, 84] .zero [a]), (.mk 3 [78, 79, 84] .zero [b])])) : SP).p z7 wR := hvp 7 (by omega)
        obtain rfl : z8 = (.slice Ar row.length cr) := hvp 8 (by omega)
        obtain rfl : z9 = (.tuple #[valV Y.1, .bool (decide (Y.2 = 0))]) := hvp 9 (by omega)
        obtain rfl : z10 = (.tuple #[valV Y.1, .bool (decide (Y.2 = 0))]) := hvp 10 (by omega)
        obtain rfl : z11 = (valV Y.1) := hvp 11 (by omega)
        have hfr : ((.fresh W0.heap.size 23 (valCs .zero)) : SP).p z13 wR := hvp 12 (by omega)
        clear hvl hvp
        simp only [putAll, Act.put, List.setIfInBounds_toArray, List.set_cons_succ, List.set_cons_zero, List.take_succ_cons, List.take_zero, List.drop_succ_cons, List.drop_zero, List.eraseIdx_cons_succ, List.eraseIdx_cons_zero]
        obtain ⟨g, rfl, hg, hrg⟩ := hfr
        have y0 : wR.cell? ⟨g, 0, none⟩ = some (.int .i64 0) := hrg.cell 0
        have y1 : wR.cell? ⟨g, 1, none⟩ = some (.int .i64 0) := hrg.cell 1
        have y2 : wR.cell? ⟨g, 2, none⟩ = some (.string (str [])) := hrg.cell 2
        have x0 : wR.frozen? ⟨g, 0, none⟩ = false := hrg.frozen 0
        have x1 : wR.frozen? ⟨g, 1, none⟩ = false := hrg.frozen 1
        have x2 : wR.frozen? ⟨g, 2, none⟩ = false := hrg.frozen 2
        have Hrg := Lib.hid hrg
        have HsR := Lib.hid hsR
        have zG := hrg.lt
        clear hsR hrg 
        go_wp2
        go_meet
        exact ⟨_, g, rfl, rfl, rfl, hg, Hrg.out.set3 _, HsR.out.set3 (fun h => by omega) _ _ _⟩
  case rest =>
    obtain ⟨W1, g1, rfl, rfl, rfl, hg1, hr1, hS⟩ := hcut
    have hra := Hra.out.keep hS trivial
    have hrb := Hrb.out.keep hS trivial
    have hrc' := Hrc.out.keep hS trivial
    clear Hra Hrb Hrc
    have hr0 := Hr0.out.keep hS trivial
    have HT1 := Lib.hid (HT0.out.trans hS)
    clear hS zc EvY k0 k1 k2 k3 k4 k5 l0 l1 l2 l3 l4 l5 m0 m1 m2 m3 m4 m5
    clear Hr0
    have Hr0 := Lib.hid hr0
    clear hr0
    have Hr1 := Lib.hid hr1
    clear hr1
    have k0 : W1.cell? ⟨w.heap.size, 0, none⟩ = some (.int .i64 a.kind) := hra.cell 0
    have k1 : W1.cell? ⟨w.heap.size, 1, none⟩ = some (.string (str a.s)) := hra.cell 1
    have k2 : W1.cell? ⟨w.heap.size, 2, none⟩ = some (.int .i64 a.v.kind) := hra.cell 2
    have k3 : W1.cell? ⟨w.heap.size, 3, none⟩ = some (.int .i64 a.v.n) := hra.cell 3
    have k4 : W1.cell? ⟨w.heap.size, 4, none⟩ = some (.string (str a.v.s)) := hra.cell 4
    have k5 : W1.cell? ⟨w.heap.size, 5, none⟩ = some (.slice Aa a.args.length ca) := hra.cell 5
    have l0 : W1.cell? ⟨w.heap.size + 1, 0, none⟩ = some (.int .i64 b.kind) := hrb.cell 0
    have l1 : W1.cell? ⟨w.heap.size + 1, 1, none⟩ = some (.string (str b.s)) := hrb.cell 1
    have l2 : W1.cell? ⟨w.heap.size + 1, 2, none⟩ = some (.int .i64 b.v.kind) := hrb.cell 2
    have l3 : W1.cell? ⟨w.heap.size + 1, 3, none⟩ = some (.int .i64 b.v.n) := hrb.cell 3
    have l4 : W1.cell? ⟨w.heap.size + 1, 4, none⟩ = some (.string (str b.v.s)) := hrb.cell 4
    have l5 : W1.cell? ⟨w.heap.size + 1, 5, none⟩ = some (.slice Ab b.args.length cb) := hrb.cell 5
    have m0 : W1.cell? ⟨w.heap.size + 2, 0, none⟩ = some (.int .i64 c.kind) := hrc'.cell 0
    have m1 : W1.cell? ⟨w.heap.size + 2, 1, none⟩ = some (.string (str c.s)) := hrc'.cell 1
    have m2 : W1.cell? ⟨w.heap.size + 2, 2, none⟩ = some (.int .i64 c.v.kind) := hrc'.cell 2
    have m3 : W1.cell? ⟨w.heap.size + 2, 3, none⟩ = some (.int .i64 c.v.n) := hrc'.cell 3
    have m4 : W1.cell? ⟨w.heap.size + 2, 4, none⟩ = some (.string (str c.v.s)) := hrc'.cell 4
    have m5 : W1.cell? ⟨w.heap.size + 2, 5, none⟩ = some (.slice Ac c.args.length cc) := hrc'.cell 5
    have zc := hrc'.lt
    have Hra := Lib.hid hra
    have Hrb := Lib.hid hrb
    have Hrc := Lib.hid hrc'
    clear hra hrb hrc'
    have Hc0 : Hid (Same (fun _ => True) W1 W1) := Lib.hid (Same.refl _ _)
    go_wp2_with (go_at_call 21; refine stopAt ?_)
    unfold Hid
    refine (op_v _ [78, 79, 84] [a] _ (ExL.fresh1 W1 (Hva.out.keepAll (HT1.out.trans Hc0.out)))).mono ?_
    rintro e' q2_0 ⟨_, rfl, ⟨u0, rfl, ht⟩, hS⟩
    have Ht0 := Lib.hid ht
    have Hc1 : Hid (Same (fun _ => True) W1 q2_0) := Lib.hid ((Hc0.out.alloc _).trans hS)
    clear ht hS
    go_wp2_with (go_at_call 21; refine stopAt ?_)
    unfold Hid
    refine (op_v _ [78, 79, 84] [(.mk 3 [78, 79, 84] .zero [a])] _ (ExL.fresh1 q2_0 Ht0.out)).mono ?_
    rintro e' q2_1 ⟨_, rfl, ⟨u1, rfl, ht⟩, hS⟩
    have Ht1 := Lib.hid ht
    have Hc2 : Hid (Same (fun _ => True) W1 q2_1) := Lib.hid ((Hc1.out.alloc _).trans hS)
    clear ht hS
    go_wp2_with (go_at_call 20; refine stopAt ?_)
    unfold Hid
    refine (EvZ.out _ _ _ ⟨_, rfl, Ht1.out⟩ (RowR.keepAll Hrow.out (HT1.out.trans Hc2.out))).mono ?_
    rintro e' v2 ⟨rfl, hS⟩
    have hS9 := Hc2.out.trans hS
    have hSb := (Same.refl (fun _ => True) v2).alloc (.cells (valCs Z.1).toArray 23)
    have hr2 := Row.new v2 23 (valCs Z.1)
    obtain ⟨W2, hW⟩ : ∃ W, W = v2.alloc (.cells (valCs Z.1).toArray 23) := ⟨_, rfl⟩
    have e0 := hW
    rw [← hW] at hSb hr2
    simp only [valCs] at e0
    have HE0 := Lib.hid e0
    have hS := hS9.trans hSb
    clear e0 hW hS9 hSb
    go_upto_region 8 with (fail)
    rw [← HE0.out]
    clear HE0
    generalize v2.heap.size = g2 at *
    have hra := Hra.out.keep hS trivial
    have hrb := Hrb.out.keep hS trivial
    have hrc' := Hrc.out.keep hS trivial
    clear Hra Hrb Hrc
    have hr0 := Hr0.out.keep hS trivial
    have hr1 := Hr1.out.keep hS trivial
    have HT2 := Lib.hid (HT1.out.trans hS)
    clear hS zc EvZ k0 k1 k2 k3 k4 k5 l0 l1 l2 l3 l4 l5 m0 m1 m2 m3 m4 m5 Hc0 Hc1 Hc2
    clear Hr0
    have Hr0 := Lib.hid hr0
    clear hr0
    clear Hr1
    have Hr1 := Lib.hid hr1
    clear hr1
    have Hr2 := Lib.hid hr2
    clear hr2
    have k0 : W2.cell? ⟨w.heap.size, 0, none⟩ = some (.int .i64 a.kind) := hra.cell 0
    have k1 : W2.cell? ⟨w.heap.size, 1, none⟩ = some (.string (str a.s)) := hra.cell 1
    have k2 : W2.cell? ⟨w.heap.size, 2, none⟩ = some (.int .i64 a.v.kind) := hra.cell 2
    have k3 : W2.cell? ⟨w.heap.size, 3, none⟩ = some (.int .i64 a.v.n) := hra.cell 3
    have k4 : W2.cell? ⟨w.heap.size, 4, none⟩ = some (.string (str a.v.s)) := hra.cell 4
    have k5 : W2.cell? ⟨w.heap.size, 5, none⟩ = some (.slice Aa a.args.length ca) := hra.cell 5
    have l0 : W2.cell? ⟨w.heap.size + 1, 0, none⟩ = some (.int .i64 b.kind) := hrb.cell 0
    have l1 : W2.cell? ⟨w.heap.size + 1, 1, none⟩ = some (.string (str b.s)) := hrb.cell 1
    have l2 : W2.cell? ⟨w.heap.size + 1, 2, none⟩ = some (.int .i64 b.v.kind) := hrb.cell 2
    have l3 : W2.cell? ⟨w.heap.size + 1, 3, none⟩ = some (.int .i64 b.v.n) := hrb.cell 3
    have l4 : W2.cell? ⟨w.heap.size + 1, 4, none⟩ = some (.string (str b.v.s)) := hrb.cell 4
    have l5 : W2.cell? ⟨w.heap.size + 1, 5, none⟩ = some (.slice Ab b.args.length cb) := hrb.cell 5
    have m0 : W2.cell? ⟨w.heap.size + 2, 0, none⟩ = some (.int .i64 c.kind) := hrc'.cell 0
    have m1 : W2.cell? ⟨w.heap.size + 2, 1, none⟩ = some (.string (str c.s)) := hrc'.cell 1
    have m2 : W2.cell? ⟨w.heap.size + 2, 2, none⟩ = some (.int .i64 c.v.kind) := hrc'.cell 2
    have m3 : W2.cell? ⟨w.heap.size + 2, 3, none⟩ = some (.int .i64 c.v.n) := hrc'.cell 3
    have m4 : W2.cell? ⟨w.heap.size + 2, 4, none⟩ = some (.string (str c.v.s)) := hrc'.cell 4
    have m5 : W2.cell? ⟨w.heap.size + 2, 5, none⟩ = some (.slice Ac c.args.length cc) := hrc'.cell 5
    have zc := hrc'.lt
    have Hra := Lib.hid hra
    have Hrb := Lib.hid hrb
    have Hrc := Lib.hid hrc'
    clear hra hrb hrc'
    have Hc0 : Hid (Same (fun _ => True) W2 W2) := Lib.hid (Same.refl _ _)
    go_wp2_with (go_at_call 20; refine stopAt ?_)
    unfold Hid
    refine (EvV.out _ _ _ ⟨_, rfl, Hva.out.keepAll (HT2.out.trans Hc0.out)⟩ (RowR.keepAll Hrow.out (HT2.out.trans Hc0.out))).mono ?_
    rintro e' v3 ⟨rfl, hS⟩
    have hS9 := Hc0.out.trans hS
    have hSb := (Same.refl (fun _ => True) v3).alloc (.cells (valCs V.1).toArray 23)
    have hr3 := Row.new v3 23 (valCs V.1)
    obtain ⟨W3, hW⟩ : ∃ W, W = v3.alloc (.cells (valCs V.1).toArray 23) := ⟨_, rfl⟩
    have e0 := hW
    rw [← hW] at hSb hr3
    simp only [valCs] at e0
    have HE0 := Lib.hid e0
    have hS := hS9.trans hSb
    clear e0 hW hS9 hSb
    go_upto_region 9 with (fail)
    rw [← HE0.out]
    clear HE0
    generalize v3.heap.size = g3 at *
    have hra := Hra.out.keep hS trivial
    have hrb := Hrb.out.keep hS trivial
    have hrc' := Hrc.out.keep hS trivial
    clear Hra Hrb Hrc
    have hr0 := Hr0.out.keep hS trivial
    have hr1 := Hr1.out.keep hS trivial
    have hr2 := Hr2.out.keep hS trivial
    have HT3 := Lib.hid (HT2.out.trans hS)
    clear hS zc EvV k0 k1 k2 k3 k4 k5 l0 l1 l2 l3 l4 l5 m0 m1 m2 m3 m4 m5 Hc0
    clear Hr0
    have Hr0 := Lib.hid hr0
    clear hr0
    clear Hr1
    have Hr1 := Lib.hid hr1
    clear hr1
    clear Hr2
    have Hr2 := Lib.hid hr2
    clear hr2
    have Hr3 := Lib.hid hr3
    clear hr3
    have k0 : W3.cell? ⟨w.heap.size, 0, none⟩ = some (.int .i64 a.kind) := hra.cell 0
    have k1 : W3.cell? ⟨w.heap.size, 1, none⟩ = some (.string (str a.s)) := hra.cell 1
    have k2 : W3.cell? ⟨w.heap.size, 2, none⟩ = some (.int .i64 a.v.kind) := hra.cell 2
    have k3 : W3.cell? ⟨w.heap.size, 3, none⟩ = some (.int .i64 a.v.n) := hra.cell 3
    have k4 : W3.cell? ⟨w.heap.size, 4, none⟩ = some (.string (str a.v.s)) := hra.cell 4
    have k5 : W3.cell? ⟨w.heap.size, 5, none⟩ = some (.slice Aa a.args.length ca) := hra.cell 5
    have l0 : W3.cell? ⟨w.heap.size + 1, 0, none⟩ = some (.int .i64 b.kind) := hrb.cell 0
    have l1 : W3.cell? ⟨w.heap.size + 1, 1, none⟩ = some (.string (str b.s)) := hrb.cell 1
    have l2 : W3.cell? ⟨w.heap.size + 1, 2, none⟩ = some (.int .i64 b.v.kind) := hrb.cell 2
    have l3 : W3.cell? ⟨w.heap.size + 1, 3, none⟩ = some (.int .i64 b.v.n) := hrb.cell 3
    have l4 : W3.cell? ⟨w.heap.size + 1, 4, none⟩ = some (.string (str b.v.s)) := hrb.cell 4
    have l5 : W3.cell? ⟨w.heap.size + 1, 5, none⟩ = some (.slice Ab b.args.length cb) := hrb.cell 5
    have m0 : W3.cell? ⟨w.heap.size + 2, 0, none⟩ = some (.int .i64 c.kind) := hrc'.cell 0
    have m1 : W3.cell? ⟨w.heap.size + 2, 1, none⟩ = some (.string (str c.s)) := hrc'.cell 1
    have m2 : W3.cell? ⟨w.heap.size + 2, 2, none⟩ = some (.int .i64 c.v.kind) := hrc'.cell 2
    have m3 : W3.cell? ⟨w.heap.size + 2, 3, none⟩ = some (.int .i64 c.v.n) := hrc'.cell 3
    have m4 : W3.cell? ⟨w.heap.size + 2, 4, none⟩ = some (.string (str c.v.s)) := hrc'.cell 4
    have m5 : W3.cell? ⟨w.heap.size + 2, 5, none⟩ = some (.slice Ac c.args.length cc) := hrc'.cell 5
    have zc := hrc'.lt
    have Hra := Lib.hid hra
    have Hrb := Lib.hid hrb
    have Hrc := Lib.hid hrc'
    clear hra hrb hrc'
    go_wp2
    go_upto_region 9 with (fail)
    go_cut [17, 18] from 98 to 109 (fun vA vB wx => ∃ (W4 : World) (g : Nat), W4 = wx ∧ vA = .pointer (some ⟨g, 0, none⟩) ∧ vB = .bool (decide (P.2 = 0)) ∧ W3.heap.size ≤ g ∧ Row W4 g 23 (valCs P.1) ∧ Same (fun _ => True) W3 W4)
    case first =>
      refine wp_region_tail_d (L := [.eq (exV (.slice Aa a.args.length ca) a), .eq (exV (.slice Ab b.args.length cb) b), .eq (exV (.slice Ac c.args.length cc) c), .of (.exl [b, c]), .of (.tree (.mk 3 [79, 82] .zero [b, c])), .of (.exl [a, (.mk 3 [79, 82] .zero [b, c])]), .of (.tree (.mk 3 [65, 78, 68] .zero [a, (.mk 3 [79, 82] .zero [b, c])])), .eq (.slice Ar row.length cr), .eq (.tuple #[valV P.1, .bool (decide (P.2 = 0))]), .eq (.tuple #[valV P.1, .bool (decide (P.2 = 0))]), .eq (valV P.1), .eq (.bool (decide (P.2 = 0))), .of (.fresh W3.heap.size 23 (valCs .zero))]) 13 11 (by omega) (by kernel_rfl) (by kernel_rfl) rfl rfl rfl rfl rfl rfl ?_ ?_ ?_
      · refine ⟨?_, ?_, ?_, ?_, ?_, ?_, ?_, ?_, ?_, ?_, ?_, ?_, ?_, trivial⟩
        · intro ac wc hs hd hz hf hw K hK
          have e0 : ac.eval (.tmp 4) = (.pointer (some ⟨w.heap.size, 0, none⟩)) := hf 4 rfl
          have m0 : wc.cell? ⟨w.heap.size, 0, none⟩ = some (.int .i64 a.kind) := hs.cell (p := ⟨w.heap.size, 0, none⟩) trivial k0
          have m1 : wc.cell? ⟨w.heap.size, 1, none⟩ = some (.string (str a.s)) := hs.cell (p := ⟨w.heap.size, 1, none⟩) trivial k1
          have m2 : wc.cell? ⟨w.heap.size, 2, none⟩ = some (.int .i64 a.v.kind) := hs.cell (p := ⟨w.heap.size, 2, none⟩) trivial k2
          have m3 : wc.cell? ⟨w.heap.size, 3, none⟩ = some (.int .i64 a.v.n) := hs.cell (p := ⟨w.heap.size, 3, none⟩) trivial k3
          have m4 : wc.cell? ⟨w.heap.size, 4, none⟩ = some (.string (str a.v.s)) := hs.cell (p := ⟨w.heap.size, 4, none⟩) trivial k4
          have m5 : wc.cell? ⟨w.heap.size, 5, none⟩ = some (.slice Aa a.args.length ca) := hs.cell (p := ⟨w.heap.size, 5, none⟩) trivial k5
          clear hd hz hf hw
          simp only [Region.wanted, if_true, Oper.wp, execOp, resolve, List.map_toArray, List.map_cons, List.map_nil, Option.map_some, Option.map_none, e0]
          go_simp
          exact hK _ _ rfl (Same.refl _ _)
        · intro ac wc hs hd hz hf hw K hK
          have e0 : ac.eval (.tmp 5) = (.pointer (some ⟨w.heap.size + 1, 0, none⟩)) := hf 5 rfl
          have m0 : wc.cell? ⟨w.heap.size + 1, 0, none⟩ = some (.int .i64 b.kind) := hs.cell (p := ⟨w.heap.size + 1, 0, none⟩) trivial l0
          have m1 : wc.cell? ⟨w.heap.size + 1, 1, none⟩ = some (.string (str b.s)) := hs.cell (p := ⟨w.heap.size + 1, 1, none⟩) trivial l1
          have m2 : wc.cell? ⟨w.heap.size + 1, 2, none⟩ = some (.int .i64 b.v.kind) := hs.cell (p := ⟨w.heap.size + 1, 2, none⟩) trivial l2
          have m3 : wc.cell? ⟨w.heap.size + 1, 3, none⟩ = some (.int .i64 b.v.n) := hs.cell (p := ⟨w.heap.size + 1, 3, none⟩) trivial l3
          have m4 : wc.cell? ⟨w.heap.size + 1, 4, none⟩ = some (.string (str b.v.s)) := hs.cell (p := ⟨w.heap.size + 1, 4, none⟩) trivial l4
          have m5 : wc.cell? ⟨w.heap.size + 1, 5, none⟩ = some (.slice Ab b.args.length cb) := hs.cell (p := ⟨w.heap.size + 1, 5, none⟩) trivial l5
          clear hd hz hf hw
          simp only [Region.wanted, if_true, Oper.wp, execOp, resolve, List.map_toArray, List.map_cons, List.map_nil, Option.map_some, Option.map_none, e0]
          go_simp
          exact hK _ _ rfl (Same.refl _ _)
        · intro ac wc hs hd hz hf hw K hK
          have e0 : ac.eval (.tmp 6) = (.pointer (some ⟨w.heap.size + 2, 0, none⟩)) := hf 6 rfl
          have m0 : wc.cell? ⟨w.heap.size + 2, 0, none⟩ = some (.int .i64 c.kind) := hs.cell (p := ⟨w.heap.size + 2, 0, none⟩) trivial m0
          have m1 : wc.cell? ⟨w.heap.size + 2, 1, none⟩ = some (.string (str c.s)) := hs.cell (p := ⟨w.heap.size + 2, 1, none⟩) trivial m1
          have m2 : wc.cell? ⟨w.heap.size + 2, 2, none⟩ = some (.int .i64 c.v.kind) := hs.cell (p := ⟨w.heap.size + 2, 2, none⟩) trivial m2
          have m3 : wc.cell? ⟨w.heap.size + 2, 3, none⟩ = some (.int .i64 c.v.n) := hs.cell (p := ⟨w.heap.size + 2, 3, none⟩) trivial m3
          have m4 : wc.cell? ⟨w.heap.size + 2, 4, none⟩ = some (.string (str c.v.s)) := hs.cell (p := ⟨w.heap.size + 2, 4, none⟩) trivial m4
          have m5 : wc.cell? ⟨w.heap.size + 2, 5, none⟩ = some (.slice Ac c.args.length cc) := hs.cell (p := ⟨w.heap.size + 2, 5, none⟩) trivial m5
          clear hd hz hf hw
          simp only [Region.wanted, if_true, Oper.wp, execOp, resolve, List.map_toArray, List.map_cons, List.map_nil, Option.map_some, Option.map_none, e0]
          go_simp
          exact hK _ _ rfl (Same.refl _ _)
        · intro ac wc hs hd hz hf hw K hK
          have e0 : ac.eval (.tmp 100) = (exV (.slice Ab b.args.length cb) b) := hw 1 rfl
          have e1 : ac.eval (.tmp 101) = (exV (.slice Ac c.args.length cc) c) := hw 2 rfl
          clear hd hz hf hw
          simp only [Region.wanted, if_true, Oper.wp, execOp, resolve, List.map_toArray, List.map_cons, List.map_nil, Option.map_some, Option.map_none, e0, e1]
          go_simp
          exact hK _ _ (ExL.fresh2 wc (Hvb.out.keepAll (HT3.out.trans hs)) (Hvc.out.keepAll (HT3.out.trans hs))) ((Same.refl _ _).alloc _)
        · intro ac wc hs hd hz hf hw K hK
          have p0 : ((.exl [b, c]) : SP).p (ac.eval (.tmp 102)) wc := hw 3 rfl
          obtain ⟨u0, e0⟩ : ∃ u, ac.eval (.tmp 102) = u := ⟨_, rfl⟩
          rw [e0] at p0
          clear hd hz hf hw
          simp only [Region.wanted, if_true, Oper.wp, execOp, resolve, List.map_toArray, List.map_cons, List.map_nil, Option.map_some, Option.map_none, e0]
          go_simp
          refine (op_v _ [79, 82] _ _ p0).mono ?_
          rintro e wd ⟨vt, rfl, ht9, hs9⟩
          exact hK _ _ ht9 hs9
        · intro ac wc hs hd hz hf hw K hK
          have e0 : ac.eval (.tmp 99) = (exV (.slice Aa a.args.length ca) a) := hw 0 rfl
          have p1 : ((.tree (.mk 3 [79, 82] .zero [b, c])) : SP).p (ac.eval (.tmp 103)) wc := hw 4 rfl
          obtain ⟨u1, e1⟩ : ∃ u, ac.eval (.tmp 103) = u := ⟨_, rfl⟩
          rw [e1] at p1
          clear hd hz hf hw
          simp only [Region.wanted, if_true, Oper.wp, execOp, resolve, List.map_toArray, List.map_cons, List.map_nil, Option.map_some, Option.map_none, e0, e1]
          go_simp
          obtain ⟨w1, rfl, h1⟩ := p1
          go_simp
          exact hK _ _ (ExL.fresh2 wc (Hva.out.keepAll (HT3.out.trans hs)) h1) ((Same.refl _ _).alloc _)
        · intro ac wc hs hd hz hf hw K hK
          have p0 : ((.exl [a, (.mk 3 [79, 82] .zero [b, c])]) : SP).p (ac.eval (.tmp 104)) wc := hw 5 rfl
          obtain ⟨u0, e0⟩ : ∃ u, ac.eval (.tmp 104) = u := ⟨_, rfl⟩
          rw [e0] at p0
          clear hd hz hf hw
          simp only [Region.wanted, if_true, Oper.wp, execOp, resolve, List.map_toArray, List.map_cons, List.map_nil, Option.map_some, Option.map_none, e0]
          go_simp
          refine (op_v _ [65, 78, 68] _ _ p0).mono ?_
          rintro e wd ⟨vt, rfl, ht9, hs9⟩
          exact hK _ _ ht9 hs9
        · intro ac wc hs hd hz hf hw K hK
          have e0 : ac.eval (.tmp 3) = (.slice Ar row.length cr) := hf 3 rfl
          clear hd hz hf hw
          simp only [Region.wanted, if_true, Oper.wp, execOp, resolve, List.map_toArray, List.map_cons, List.map_nil, Option.map_some, Option.map_none, e0]
          go_simp
          exact hK _ _ rfl (Same.refl _ _)
        · intro ac wc hs hd hz hf hw K hK
          have p0 : ((.tree (.mk 3 [65, 78, 68] .zero [a, (.mk 3 [79, 82] .zero [b, c])])) : SP).p (ac.eval (.tmp 105)) wc := hw 6 rfl
          obtain ⟨u0, e0⟩ : ∃ u, ac.eval (.tmp 105) = u := ⟨_, rfl⟩
          rw [e0] at p0
          have e1 : ac.eval (.tmp 106) = (.slice Ar row.length cr) := hw 7 rfl
          clear hd hz hf hw
          simp only [Region.wanted, if_true, Oper.wp, execOp, resolve, List.map_toArray, List.map_cons, List.map_nil, Option.map_some, Option.map_none, e0, e1]
          go_simp
          refine (EvP.out _ _ _ p0 (RowR.keepAll Hrow.out (HT3.out.trans hs))).mono ?_
          rintro e wd ⟨rfl, hs2⟩
          exact hK _ _ rfl hs2
        · intro ac wc hs hd hz hf hw K hK
          have e0 : ac.eval (.tmp 107) = (.tuple #[valV P.1, .bool (decide (P.2 = 0))]) := hw 8 rfl
          clear hd hz hf hw
          simp only [Region.wanted, if_true, Oper.wp, execOp, resolve, List.map_toArray, List.map_cons, List.map_nil, Option.map_some, Option.map_none, e0]
          go_simp
          exact hK _ _ rfl (Same.refl _ _)
        · intro ac wc hs hd hz hf hw K hK
          have e0 : ac.eval (.tmp 98) = (.tuple #[valV P.1, .bool (decide (P.2 = 0))]) := hw 9 rfl
          clear hd hz hf hw
          simp only [Region.wanted, if_true, Oper.wp, execOp, resolve, List.map_toArray, List.map_cons, List.map_nil, Option.map_some, Option.map_none, e0]
          go_simp
          exact hK _ _ rfl (Same.refl _ _)
        · intro ac wc hs hd hz hf hw K hK
          have e0 : ac.eval (.tmp 98) = (.tuple #[valV P.1, .bool (decide (P.2 = 0))]) := hw 9 rfl
          clear hd hz hf hw
          simp only [Region.wanted, if_true, Oper.wp, execOp, resolve, List.map_toArray, List.map_cons, List.map_nil, Option.map_some, Option.map_none, e0]
          go_simp
          exact hK _ _ rfl (Same.refl _ _)
        · intro ac wc hs hd hz hf hw K hK
          clear hd hz hf hw
          simp only [Region.wanted, if_true, Oper.wp, execOp, resolve, List.map_toArray, List.map_cons, List.map_nil, Option.map_some, Option.map_none]
          go_simp
          exact hK _ _ ⟨_, rfl, hs.size, Row.new wc _ (valCs .zero)⟩ ((Same.refl _ _).alloc _)
      · intro vs wR hvl hvp hsR
        rcases vs with _ | ⟨z0, _ | ⟨z1, _ | ⟨z2, _ | ⟨z3, _ | ⟨z4, _ | ⟨z5, _ | ⟨z6, _ | ⟨z7, _ | ⟨z8, _ | ⟨z9, _ | ⟨z10, _ | ⟨z11, _ | ⟨z12, _ | ⟨zz, zr⟩⟩⟩⟩⟩⟩⟩⟩⟩⟩⟩⟩⟩⟩
        rotate_right 1
        · simp at hvl
        · simp at hvl
        · simp at hvl
        · simp at hvl
        · simp at hvl
        · simp at hvl
        · simp at hvl
        · simp at hvl
        · simp at hvl
        · simp at hvl
        · simp at hvl
        · simp at hvl
        · simp at hvl
        · simp at hvl
        · obtain rfl : z0 = (exV (.slice Aa a.args.length ca) a) := hvp 0 (by omega)
          obtain rfl : z1 = (exV (.slice Ab b.args.length cb) b) := hvp 1 (by omega)
          obtain rfl : z2 = (exV (.slice Ac c.args.length cc) c) := hvp 2 (by omega)
          have hsl102 : ((.exl [b, c]) : SP).p z3 wR := hvp 3 (by omega)
          have htr103 : ((.tree (.mk 3 [79, 82] .zero [b, c])) : SP).p z4 wR := hvp 4 (by omega)
          have hsl104 : ((.exl [a, (.mk 3 [79, 82] .zero [b, c])]) : SP).p z5 wR := hvp 5 (by omega)
          have htr105 : ((.tree (.mk 3 [65, 78, 68] .zero [a, (.mk 3 [79, 82] .zero [b, c])])) : SP).p z6 wR := hvp 6 (by omega)
          obtain rfl : z7 = (.slice Ar row.length cr) := hvp 7 (by omega)
          obtain rfl : z8 = (.tuple #[valV P.1, .bool (decide (P.2 = 0))]) := hvp 8 (by omega)
          obtain rfl : z9 = (.tuple #[valV P.1, .bool (decide (P.2 = 0))]) := hvp 9 (by omega)
          obtain rfl : z10 = (valV P.1) := hvp 10 (by omega)
          obtain rfl : z11 = (.bool (decide (P.2 = 0))) := hvp 11 (by omega)
          have hfr : ((.fresh W3.heap.size 23 (valCs .zero)) : SP).p z12 wR := hvp 12 (by omega)
          clear hvl hvp
          simp only [putAll, Act.put, List.setIfInBounds_toArray, List.set_cons_succ, List.set_cons_zero, List.take_succ_cons, List.take_zero, List.drop_succ_cons, List.drop_zero, List.eraseIdx_cons_succ, List.eraseIdx_cons_zero]
          obtain ⟨g, rfl, hg, hrg⟩ := hfr
          have y0 : wR.cell? ⟨g, 0, none⟩ = some (.int .i64 0) := hrg.cell 0
          have y1 : wR.cell? ⟨g, 1, none⟩ = some (.int .i64 0) := hrg.cell 1
          have y2 : wR.cell? ⟨g, 2, none⟩ = some (.string (str [])) := hrg.cell 2
          have x0 : wR.frozen? ⟨g, 0, none⟩ = false := hrg.frozen 0
          have x1 : wR.frozen? ⟨g, 1, none⟩ = false := hrg.frozen 1
          have x2 : wR.frozen? ⟨g, 2, none⟩ = false := hrg.frozen 2
          have Hrg := Lib.hid hrg
          have HsR := Lib.hid hsR
          have zG := hrg.lt
          clear hsR hrg 
          go_wp2
          go_meet
          exact ⟨_, g, rfl, rfl, rfl, hg, Hrg.out.set3 _, HsR.out.set3 (fun h => by omega) _ _ _⟩
      · intro vs wR hvl hvp hsR
        rcases vs with _ | ⟨z0, _ | ⟨z1, _ | ⟨z2, _ | ⟨z3, _ | ⟨z4, _ | ⟨z5, _ | ⟨z6, _ | ⟨z7, _ | ⟨z8, _ | ⟨z9, _ | ⟨z10, _ | ⟨z12, _ | ⟨zz, zr⟩⟩⟩⟩⟩⟩⟩⟩⟩⟩⟩⟩⟩
        rotate_right 1
        · simp at hvl
        · simp at hvl
        · simp at hvl
        · simp at hvl
        · simp at hvl
        · simp at hvl
        · simp at hvl
        · simp at hvl
        · simp at hvl
        · simp at hvl
        · simp at hvl
        · simp at hvl
        · simp at hvl
        · obtain rfl : z0 = (exV (.slice Aa a.args.length ca) a) := hvp 0 (by omega)
          obtain rfl : z1 = (exV (.slice Ab b.args.length cb) b) := hvp 1 (by omega)
          obtain rfl : z2 = (exV (.slice Ac c.args.length cc) c) := hvp 2 (by omega)
          have hsl102 : ((.exl [b, c]) : SP).p z3 wR := hvp 3 (by omega)
          have htr103 : ((.tree (.mk 3 [79, 82] .zero [b, c])) : SP).p z4 wR := hvp 4 (by omega)
          have hsl104 : ((.exl [a, (.mk 3 [79, 82] .zero [b, c])]) : SP).p z5 wR := hvp 5 (by omega)
          have htr105 : ((.tree (.mk 3 [65, 78, 68] .zero [a, (.mk 3 [79, 82] .zero [b, c])])) : SP).p z6 wR := hvp 6 (by omega)
          obtain rfl : z7 = (.slice Ar row.length cr) := hvp 7 (by omega)
          obtain rfl : z8 = (.tuple #[valV P.1, .bool (decide (P.2 = 0))]) := hvp 8 (by omega)
          obtain rfl : z9 = (.tuple #[valV P.1, .bool (decide (P.2 = 0))]) := hvp 9 (by omega)
          obtain rfl : z10 = (valV P.1) := hvp 10 (by omega)
          have hfr : ((.fresh W3.heap.size 23 (valCs .zero)) : SP).p z12 wR := hvp 11 (by omega)
          clear hvl hvp
          simp only [putAll, Act.put, List.setIfInBounds_toArray, List.set_cons_succ, List.set_cons_zero, List.take_succ_cons, List.take_zero, List.drop_succ_cons, List.drop_zero, List.eraseIdx_cons_succ, List.eraseIdx_cons_zero]
          obtain ⟨g, rfl, hg, hrg⟩ := hfr
          have y0 : wR.cell? ⟨g, 0, none⟩ = some (.int .i64 0) := hrg.cell 0
          have y1 : wR.cell? ⟨g, 1, none⟩ = some (.int .i64 0) := hrg.cell 1
          have y2 : wR.cell? ⟨g, 2, none⟩ = some (.string (str [])) := hrg.cell 2
          have x0 : wR.frozen? ⟨g, 0, none⟩ = false := hrg.frozen 0
          have x1 : wR.frozen? ⟨g, 1, none⟩ = false := hrg.frozen 1
          have x2 : wR.frozen? ⟨g, 2, none⟩ = false := hrg.frozen 2
          have Hrg := Lib.hid hrg
          have HsR := Lib.hid hsR
          have zG := hrg.lt
          clear hsR hrg 
          go_wp2
          go_meet
          exact ⟨_, g, rfl, rfl, rfl, hg, Hrg.out.set3 _, HsR.out.set3 (fun h => by omega) _ _ _⟩
    case rest =>
      obtain ⟨W4, g4, rfl, rfl, rfl, hg4, hr4, hS⟩ := hcut
      have hra := Hra.out.keep hS trivial
      have hrb := Hrb.out.keep hS trivial
      have hrc' := Hrc.out.keep hS trivial
      clear Hra Hrb Hrc
      have hr0 := Hr0.out.keep hS trivial
      have hr1 := Hr1.out.keep hS trivial
      have hr2 := Hr2.out.keep hS trivial
      have hr3 := Hr3.out.keep hS trivial
      have HT4 := Lib.hid (HT3.out.trans hS)
      clear hS zc EvP k0 k1 k2 k3 k4 k5 l0 l1 l2 l3 l4 l5 m0 m1 m2 m3 m4 m5
      clear Hr0
      have Hr0 := Lib.hid hr0
      clear hr0
      clear Hr1
      have Hr1 := Lib.hid hr1
      clear hr1
      clear Hr2
      have Hr2 := Lib.hid hr2
      clear hr2
      clear Hr3
      have Hr3 := Lib.hid hr3
      clear hr3
      have Hr4 := Lib.hid hr4
      clear hr4
      have k0 : W4.cell? ⟨w.heap.size, 0, none⟩ = some (.int .i64 a.kind) := hra.cell 0
      have k1 : W4.cell? ⟨w.heap.size, 1, none⟩ = some (.string (str a.s)) := hra.cell 1
      have k2 : W4.cell? ⟨w.heap.size, 2, none⟩ = some (.int .i64 a.v.kind) := hra.cell 2
      have k3 : W4.cell? ⟨w.heap.size, 3, none⟩ = some (.int .i64 a.v.n) := hra.cell 3
      have k4 : W4.cell? ⟨w.heap.size, 4, none⟩ = some (.string (str a.v.s)) := hra.cell 4
      have k5 : W4.cell? ⟨w.heap.size, 5, none⟩ = some (.slice Aa a.args.length ca) := hra.cell 5
      have l0 : W4.cell? ⟨w.heap.size + 1, 0, none⟩ = some (.int .i64 b.kind) := hrb.cell 0
      have l1 : W4.cell? ⟨w.heap.size + 1, 1, none⟩ = some (.string (str b.s)) := hrb.cell 1
      have l2 : W4.cell? ⟨w.heap.size + 1, 2, none⟩ = some (.int .i64 b.v.kind) := hrb.cell 2
      have l3 : W4.cell? ⟨w.heap.size + 1, 3, none⟩ = some (.int .i64 b.v.n) := hrb.cell 3
      have l4 : W4.cell? ⟨w.heap.size + 1, 4, none⟩ = some (.string (str b.v.s)) := hrb.cell 4
      have l5 : W4.cell? ⟨w.heap.size + 1, 5, none⟩ = some (.slice Ab b.args.length cb) := hrb.cell 5
      have m0 : W4.cell? ⟨w.heap.size + 2, 0, none⟩ = some (.int .i64 c.kind) := hrc'.cell 0
      have m1 : W4.cell? ⟨w.heap.size + 2, 1, none⟩ = some (.string (str c.s)) := hrc'.cell 1
      have m2 : W4.cell? ⟨w.heap.size + 2, 2, none⟩ = some (.int .i64 c.v.kind) := hrc'.cell 2
      have m3 : W4.cell? ⟨w.heap.size + 2, 3, none⟩ = some (.int .i64 c.v.n) := hrc'.cell 3
      have m4 : W4.cell? ⟨w.heap.size + 2, 4, none⟩ = some (.string (str c.v.s)) := hrc'.cell 4
      have m5 : W4.cell? ⟨w.heap.size + 2, 5, none⟩ = some (.slice Ac c.args.length cc) := hrc'.cell 5
      have zc := hrc'.lt
      have Hra := Lib.hid hra
      have Hrb := Lib.hid hrb
      have Hrc := Lib.hid hrc'
      clear hra hrb hrc'
      go_wp2
      go_upto_region 10 with (fail)
      go_cut [19, 20] from 110 to 124 (fun vA vB wx => ∃ (W5 : World) (g : Nat), W5 = wx ∧ vA = .pointer (some ⟨g, 0, none⟩) ∧ vB = .bool (decide (Q.2 = 0)) ∧ W4.heap.size ≤ g ∧ Row W5 g 23 (valCs Q.1) ∧ Same (fun _ => True) W4 W5)
      case first =>
        refine wp_region_tail_d (L := [.eq (exV (.slice Aa a.args.length ca) a), .eq (exV (.slice Ab b.args.length cb) b), .of (.exl [a, b]), .of (.tree (.mk 3 [65, 78, 68] .zero [a, b])), .eq (exV (.slice Aa a.args.length ca) a), .eq (exV (.slice Ac c.args.length cc) c), .of (.exl [a, c]), .of (.tree (.mk 3 [65, 78, 68] .zero [a, c])), .of (.exl [(.mk 3 [65, 78, 68] .zero [a, b]), (.mk 3 [65, 78, 68] .zero [a, c])]), .of (.tree (.mk 3 [79, 82] .zero [(.mk 3 [65, 78, 68] .zero [a, b]), (.mk 3 [65, 78, 68] .zero [a, c])])), .eq (.slice Ar row.length cr), .eq (.tuple #[valV Q.1, .bool (decide (Q.2 = 0))]), .eq (.tuple #[valV Q.1, .bool (decide (Q.2 = 0))]), .eq (valV Q.1), .eq (.bool (decide (Q.2 = 0))), .of (.fresh W4.heap.size 23 (valCs .zero))]) 16 14 (by omega) (by kernel_rfl) (by kernel_rfl) rfl rfl rfl rfl rfl rfl ?_ ?_ ?_
        · refine ⟨?_, ?_, ?_, ?_, ?_, ?_, ?_, ?_, ?_, ?_, ?_, ?_, ?_, ?_, ?_, ?_, trivial⟩
          · intro ac wc hs hd hz hf hw K hK
            have e0 : ac.eval (.tmp 4) = (.pointer (some ⟨w.heap.size, 0, none⟩)) := hf 4 rfl
            have m0 : wc.cell? ⟨w.heap.size, 0, none⟩ = some (.int .i64 a.kind) := hs.cell (p := ⟨w.heap.size, 0, none⟩) trivial k0
            have m1 : wc.cell? ⟨w.heap.size, 1, none⟩ = some (.string (str a.s)) := hs.cell (p := ⟨w.heap.size, 1, none⟩) trivial k1
            have m2 : wc.cell? ⟨w.heap.size, 2, none⟩ = some (.int .i64 a.v.kind) := hs.cell (p := ⟨w.heap.size, 2, none⟩) trivial k2
            have m3 : wc.cell? ⟨w.heap.size, 3, none⟩ = some (.int .i64 a.v.n) := hs.cell (p := ⟨w.heap.size, 3, none⟩) trivial k3
            have m4 : wc.cell? ⟨w.heap.size, 4, none⟩ = some (.string (str a.v.s)) := hs.cell (p := ⟨w.heap.size, 4, none⟩) trivial k4
            have m5 : wc.cell? ⟨w.heap.size, 5, none⟩ = some (.slice Aa a.args.length ca) := hs.cell (p := ⟨w.heap.size, 5, none⟩) trivial k5
            clear hd hz hf hw
            simp only [Region.wanted, if_true, Oper.wp, execOp, resolve, List.map_toArray, List.map_cons, List.map_nil, Option.map_some, Option.map_none, e0]
            go_simp
            exact hK _ _ rfl (Same.refl _ _)
          · intro ac wc hs hd hz hf hw K hK
            have e0 : ac.eval (.tmp 5) = (.pointer (some ⟨w.heap.size + 1, 0, none⟩)) := hf 5 rfl
            have m0 : wc.cell? ⟨w.heap.size + 1, 0, none⟩ = some (.int .i64 b.kind) := hs.cell (p := ⟨w.heap.size + 1, 0, none⟩) trivial l0
            have m1 : wc.cell? ⟨w.heap.size + 1, 1, none⟩ = some (.string (str b.s)) := hs.cell (p := ⟨w.heap.size + 1, 1, none⟩) trivial l1
            have m2 : wc.cell? ⟨w.heap.size + 1, 2, none⟩ = some (.int .i64 b.v.kind) := hs.cell (p := ⟨w.heap.size + 1, 2, none⟩) trivial l2
            have m3 : wc.cell? ⟨w.heap.size + 1, 3, none⟩ = some (.int .i64 b.v.n) := hs.cell (p := ⟨w.heap.size + 1, 3, none⟩) trivial l3
            have m4 : wc.cell? ⟨w.heap.size + 1, 4, none⟩ = some (.string (str b.v.s)) := hs.cell (p := ⟨w.heap.size + 1, 4, none⟩) trivial l4
            have m5 : wc.cell? ⟨w.heap.size + 1, 5, none⟩ = some (.slice Ab b.args.length cb) := hs.cell (p := ⟨w.heap.size + 1, 5, none⟩) trivial l5
            clear hd hz hf hw
            simp only [Region.wanted, if_true, Oper.wp, execOp, resolve, List.map_toArray, List.map_cons, List.map_nil, Option.map_some, Option.map_none, e0]
            go_simp
            exact hK _ _ rfl (Same.refl _ _)
          · intro ac wc hs hd hz hf hw K hK
            have e0 : ac.eval (.tmp 111) = (exV (.slice Aa a.args.length ca) a) := hw 0 rfl
            have e1 : ac.eval (.tmp 112) = (exV (.slice Ab b.args.length cb) b) := hw 1 rfl
            clear hd hz hf hw
            simp only [Region.wanted, if_true, Oper.wp, execOp, resolve, List.map_toArray, List.map_cons, List.map_nil, Option.map_some, Option.map_none, e0, e1]
            go_simp
            exact hK _ _ (ExL.fresh2 wc (Hva.out.keepAll (HT4.out.trans hs)) (Hvb.out.keepAll (HT4.out.trans hs))) ((Same.refl _ _).alloc _)
          · intro ac wc hs hd hz hf hw K hK
            have p0 : ((.exl [a, b]) : SP).p (ac.eval (.tmp 113)) wc := hw 2 rfl
            obtain ⟨u0, e0⟩ : ∃ u, ac.eval (.tmp 113) = u := ⟨_, rfl⟩
            rw [e0] at p0
            clear hd hz hf hw
            simp only [Region.wanted, if_true, Oper.wp, execOp, resolve, List.map_toArray, List.map_cons, List.map_nil, Option.map_some, Option.map_none, e0]
            go_simp
            refine (op_v _ [65, 78, 68] _ _ p0).mono ?_
            rintro e wd ⟨vt, rfl, ht9, hs9⟩
            exact hK _ _ ht9 hs9
          · intro ac wc hs hd hz hf hw K hK
            have e0 : ac.eval (.tmp 4) = (.pointer (some ⟨w.heap.size, 0, none⟩)) := hf 4 rfl
            have m0 : wc.cell? ⟨w.heap.size, 0, none⟩ = some (.int .i64 a.kind) := hs.cell (p := ⟨w.heap.size, 0, none⟩) trivial k0
            have m1 : wc.cell? ⟨w.heap.size, 1, none⟩ = some (.string (str a.s)) := hs.cell (p := ⟨w.heap.size, 1, none⟩) trivial k1
            have m2 : wc.cell? ⟨w.heap.size, 2, none⟩ = some (.int .i64 a.v.kind) := hs.cell (p := ⟨w.heap.size, 2, none⟩) trivial k2
            have m3 : wc.cell? ⟨w.heap.size, 3, none⟩ = some (.int .i64 a.v.n) := hs.cell (p := ⟨w.heap.size, 3, none⟩) trivial k3
            have m4 : wc.cell? ⟨w.heap.size, 4, none⟩ = some (.string (str a.v.s)) := hs.cell (p := ⟨w.heap.size, 4, none⟩) trivial k4
            have m5 : wc.cell? ⟨w.heap.size, 5, none⟩ = some (.slice Aa a.args.length ca) := hs.cell (p := ⟨w.heap.size, 5, none⟩) trivial k5
            clear hd hz hf hw
            simp only [Region.wanted, if_true, Oper.wp, execOp, resolve, List.map_toArray, List.map_cons, List.map_nil, Option.map_some, Option.map_none, e0]
            go_simp
            exact hK _ _ rfl (Same.refl _ _)
          · intro ac wc hs hd hz hf hw K hK
            have e0 : ac.eval (.tmp 6) = (.pointer (some ⟨w.heap.size + 2, 0, none⟩)) := hf 6 rfl
            have m0 : wc.cell? ⟨w.heap.size + 2, 0, none⟩ = some (.int .i64 c.kind) := hs.cell (p := ⟨w.heap.size + 2, 0, none⟩) trivial m0
            have m1 : wc.cell? ⟨w.heap.size + 2, 1, none⟩ = some (.string (str c.s)) := hs.cell (p := ⟨w.heap.size + 2, 1, none⟩) trivial m1
            have m2 : wc.cell? ⟨w.heap.size + 2, 2, none⟩ = some (.int .i64 c.v.kind) := hs.cell (p := ⟨w.heap.size + 2, 2, none⟩) trivial m2
            have m3 : wc.cell? ⟨w.heap.size + 2, 3, none⟩ = some (.int .i64 c.v.n) := hs.cell (p := ⟨w.heap.size + 2, 3, none⟩) trivial m3
            have m4 : wc.cell? ⟨w.heap.size + 2, 4, none⟩ = some (.string (str c.v.s)) := hs.cell (p := ⟨w.heap.size + 2, 4, none⟩) trivial m4
            have m5 : wc.cell? ⟨w.heap.size + 2, 5, none⟩ = some (.slice Ac c.args.length cc) := hs.cell (p := ⟨w.heap.size + 2, 5, none⟩) trivial m5
            clear hd hz hf hw
            simp only [Region.wanted, if_true, Oper.wp, execOp, resolve, List.map_toArray, List.map_cons, List.map_nil, Option.map_some, Option.map_none, e0]
            go_simp
            exact hK _ _ rfl (Same.refl _ _)
          · intro ac wc hs hd hz hf hw K hK
            have e0 : ac.eval (.tmp 115) = (exV (.slice Aa a.args.length ca) a) := hw 4 rfl
            have e1 : ac.eval (.tmp 116) = (exV (.slice Ac c.args.length cc) c) := hw 5 rfl
            clear hd hz hf hw
            simp only [Region.wanted, if_true, Oper.wp, execOp, resolve, List.map_toArray, List.map_cons, List.map_nil, Option.map_some, Option.map_none, e0, e1]
            go_simp
            exact hK _ _ (ExL.fresh2 wc (Hva.out.keepAll (HT4.out.trans hs)) (Hvc.out.keepAll (HT4.out.trans hs))) ((Same.refl _ _).alloc _)
          · intro ac wc hs hd hz hf hw K hK
            have p0 : ((.exl [a, c]) : SP).p (ac.eval (.tmp 117)) wc := hw 6 rfl
            obtain ⟨u0, e0⟩ : ∃ u, ac.eval (.tmp 117) = u := ⟨_, rfl⟩
            rw [e0] at p0
            clear hd hz hf hw
            simp only [Region.wanted, if_true, Oper.wp, execOp, resolve, List.map_toArray, List.map_cons, List.map_nil, Option.map_some, Option.map_none, e0]
            go_simp
            refine (op_v _ [65, 78, 68] _ _ p0).mono ?_
            rintro e wd ⟨vt, rfl, ht9, hs9⟩
            exact hK _ _ ht9 hs9
          · intro ac wc hs hd hz hf hw K hK
            have p0 : ((.tree (.mk 3 [65, 78, 68] .zero [a, b])) : SP).p (ac.eval (.tmp 114)) wc := hw 3 rfl
            obtain ⟨u0, e0⟩ : ∃ u, ac.eval (.tmp 114) = u := ⟨_, rfl⟩
            rw [e0] at p0
            have p1 : ((.tree (.mk 3 [65, 78, 68] .zero [a, c])) : SP).p (ac.eval (.tmp 118)) wc := hw 7 rfl
            obtain ⟨u1, e1⟩ : ∃ u, ac.eval (.tmp 118) = u := ⟨_, rfl⟩
            rw [e1] at p1
            clear hd hz hf hw
            simp only [Region.wanted, if_true, Oper.wp, execOp, resolve, List.map_toArray, List.map_cons, List.map_nil, Option.map_some, Option.map_none, e0, e1]
            go_simp
            obtain ⟨w0, rfl, h0⟩ := p0
            obtain ⟨w1, rfl, h1⟩ := p1
            go_simp
            exact hK _ _ (ExL.fresh2 wc h0 h1) ((Same.refl _ _).alloc _)
          · intro ac wc hs hd hz hf hw K hK
            have p0 : ((.exl [(.mk 3 [65, 78, 68] .zero [a, b]), (.mk 3 [65, 78, 68] .zero [a, c])]) : SP).p (ac.eval (.tmp 119)) wc := hw 8 rfl
            obtain ⟨u0, e0⟩ : ∃ u, ac.eval (.tmp 119) = u := ⟨_, rfl⟩
            rw [e0] at p0
            clear hd hz hf hw
            simp only [Region.wanted, if_true, Oper.wp, execOp, resolve, List.map_toArray, List.map_cons, List.map_nil, Option.map_some, Option.map_none, e0]
            go_simp
            refine (op_v _ [79, 82] _ _ p0).mono ?_
            rintro e wd ⟨vt, rfl, ht9, hs9⟩
            exact hK _ _ ht9 hs9
          · intro ac wc hs hd hz hf hw K hK
            have e0 : ac.eval (.tmp 3) = (.slice Ar row.length cr) := hf 3 rfl
            clear hd hz hf hw
            simp only [Region.wanted, if_true, Oper.wp, execOp, resolve, List.map_toArray, List.map_cons, List.map_nil, Option.map_some, Option.map_none, e0]
            go_simp
            exact hK _ _ rfl (Same.refl _ _)
          · intro ac wc hs hd hz hf hw K hK
            have p0 : ((.tree (.mk 3 [79, 82] .zero [(.mk 3 [65, 78, 68] .zero [a, b]), (.mk 3 [65, 78, 68] .zero [a, c])])) : SP).p (ac.eval (.tmp 120)) wc := hw 9 rfl
            obtain ⟨u0, e0⟩ : ∃ u, ac.eval (.tmp 120) = u := ⟨_, rfl⟩
            rw [e0] at p0
            have e1 : ac.eval (.tmp 121) = (.slice Ar row.length cr) := hw 10 rfl
            clear hd hz hf hw
            simp only [Region.wanted, if_true, Oper.wp, execOp, resolve, List.map_toArray, List.map_cons, List.map_nil, Option.map_some, Option.map_none, e0, e1]
            go_simp
            refine (EvQ.out _ _ _ p0 (RowR.keepAll Hrow.out (HT4.out.trans hs))).mono ?_
            rintro e wd ⟨rfl, hs2⟩
            exact hK _ _ rfl hs2
          · intro ac wc hs hd hz hf hw K hK
            have e0 : ac.eval (.tmp 122) = (.tuple #[valV Q.1, .bool (decide (Q.2 = 0))]) := hw 11 rfl
            clear hd hz hf hw
            simp only [Region.wanted, if_true, Oper.wp, execOp, resolve, List.map_toArray, List.map_cons, List.map_nil, Option.map_some, Option.map_none, e0]
            go_simp
            exact hK _ _ rfl (Same.refl _ _)
          · intro ac wc hs hd hz hf hw K hK
            have e0 : ac.eval (.tmp 110) = (.tuple #[valV Q.1, .bool (decide (Q.2 = 0))]) := hw 12 rfl
            clear hd hz hf hw
            simp only [Region.wanted, if_true, Oper.wp, execOp, resolve, List.map_toArray, List.map_cons, List.map_nil, Option.map_some, Option.map_none, e0]
            go_simp
            exact hK _ _ rfl (Same.refl _ _)
          · intro ac wc hs hd hz hf hw K hK
            have e0 : ac.eval (.tmp 110) = (.tuple #[valV Q.1, .bool (decide (Q.2 = 0))]) := hw 12 rfl
            clear hd hz hf hw
            simp only [Region.wanted, if_true, Oper.wp, execOp, resolve, List.map_toArray, List.map_cons, List.map_nil, Option.map_some, Option.map_none, e0]
            go_simp
            exact hK _ _ rfl (Same.refl _ _)
          · intro ac wc hs hd hz hf hw K hK
            clear hd hz hf hw
            simp only [Region.wanted, if_true, Oper.wp, execOp, resolve, List.map_toArray, List.map_cons, List.map_nil, Option.map_some, Option.map_none]
            go_simp
            exact hK _ _ ⟨_, rfl, hs.size, Row.new wc _ (valCs .zero)⟩ ((Same.refl _ _).alloc _)
        · intro vs wR hvl hvp hsR
          rcases vs with _ | ⟨z0, _ | ⟨z1, _ | ⟨z2, _ | ⟨z3, _ | ⟨z4, _ | ⟨z5, _ | ⟨z6, _ | ⟨z7, _ | ⟨z8, _ | ⟨z9, _ | ⟨z10, _ | ⟨z11, _ | ⟨z12, _ | ⟨z13, _ | ⟨z14, _ | ⟨z15, _ | ⟨zz, zr⟩⟩⟩⟩⟩⟩⟩⟩⟩⟩⟩⟩⟩⟩⟩⟩⟩
          rotate_right 1
          · simp at hvl
          · simp at hvl
          · simp at hvl
          · simp at hvl
          · simp at hvl
          · simp at hvl
          · simp at hvl
          · simp at hvl
          · simp at hvl
          · simp at hvl
          · simp at hvl
          · simp at hvl
          · simp at hvl
          · simp at hvl
          · simp at hvl
          · simp at hvl
          · simp at hvl
          · obtain rfl : z0 = (exV (.slice Aa a.args.length ca) a) := hvp 0 (by omega)
            obtain rfl : z1 = (exV (.slice Ab b.args.length cb) b) := hvp 1 (by omega)
            have hsl113 : ((.exl [a, b]) : SP).p z2 wR := hvp 2 (by omega)
            have htr114 : ((.tree (.mk 3 [65, 78, 68] .zero [a, b])) : SP).p z3 wR := hvp 3 (by omega)
            obtain rfl : z4 = (exV (.slice Aa a.args.length ca) a) := hvp 4 (by omega)
            obtain rfl : z5 = (exV (.slice Ac c.args.length cc) c) := hvp 5 (by omega)
            have hsl117 : ((.exl [a, c]) : SP).p z6 wR := hvp 6 (by omega)
            have htr118 : ((.tree (.mk 3 [65, 78, 68] .zero [a, c])) : SP).p z7 wR := hvp 7 (by omega)
            have hsl119 : ((.exl [(.mk 3 [65, 78, 68] .zero [a, b]), (.mk 3 [65, 78, 68] .zero [a, c])]) : SP).p z8 wR := hvp 8 (by omega)
            have htr120 : ((.tree (.mk 3 [79, 82] .zero [(.mk 3 [65, 78, 68] .zero [a, b]), (.mk 3 [65, 78, 68] .zero [a, c])])) : SP).p z9 wR := hvp 9 (by omega)
            obtain rfl : z10 = (.slice Ar row.length cr) := hvp 10 (by omega)
            obtain rfl : z11 = (.tuple #[valV Q.1, .bool (decide (Q.2 = 0))]) := hvp 11 (by omega)
            obtain rfl : z12 = (.tuple #[valV Q.1, .bool (decide (Q.2 = 0))]) := hvp 12 (by omega)
            obtain rfl : z13 = (valV Q.1) := hvp 13 (by omega)
            obtain rfl : z14 = (.bool (decide (Q.2 = 0))) := hvp 14 (by omega)
            have hfr : ((.fresh W4.heap.size 23 (valCs .zero)) : SP).p z15 wR := hvp 15 (by omega)
            clear hvl hvp
            simp only [putAll, Act.put, List.setIfInBounds_toArray, List.set_cons_succ, List.set_cons_zero, List.take_succ_cons, List.take_zero, List.drop_succ_cons, List.drop_zero, List.eraseIdx_cons_succ, List.eraseIdx_cons_zero]
            obtain ⟨g, rfl, hg, hrg⟩ := hfr
            have y0 : wR.cell? ⟨g, 0, none⟩ = some (.int .i64 0) := hrg.cell 0
            have y1 : wR.cell? ⟨g, 1, none⟩ = some (.int .i64 0) := hrg.cell 1
            have y2 : wR.cell? ⟨g, 2, none⟩ = some (.string (str [])) := hrg.cell 2
            have x0 : wR.frozen? ⟨g, 0, none⟩ = false := hrg.frozen 0
            have x1 : wR.frozen? ⟨g, 1, none⟩ = false := hrg.frozen 1
            have x2 : wR.frozen? ⟨g, 2, none⟩ = false := hrg.frozen 2
            have Hrg := Lib.hid hrg
            have HsR := Lib.hid hsR
            have zG := hrg.lt
            clear hsR hrg 
            go_wp2
            go_meet
            exact ⟨_, g, rfl, rfl, rfl, hg, Hrg.out.set3 _, HsR.out.set3 (fun h => by omega) _ _ _⟩
        · intro vs wR hvl hvp hsR
          rcases vs with _ | ⟨z0, _ | ⟨z1, _ | ⟨z2, _ | ⟨z3, _ | ⟨z4, _ | ⟨z5, _ | ⟨z6, _ | ⟨z7, _ | ⟨z8, _ | ⟨z9, _ | ⟨z10, _ | ⟨z11, _ | ⟨z12, _ | ⟨z13, _ | ⟨z15, _ | ⟨zz, zr⟩⟩⟩⟩⟩⟩⟩⟩⟩⟩⟩⟩⟩⟩⟩⟩
          rotate_right 1
          · simp at hvl
          · simp at hvl
          · simp at hvl
          · simp at hvl
          · simp at hvl
          · simp at hvl
          · simp at hvl
          · simp at hvl
          · simp at hvl
          · simp at hvl
          · simp at hvl
          · simp at hvl
          · simp at hvl
          · simp at hvl
          · simp at hvl
          · simp at hvl
          · obtain rfl : z0 = (exV (.slice Aa a.args.length ca) a) := hvp 0 (by omega)
            obtain rfl : z1 = (exV (.slice Ab b.args.length cb) b) := hvp 1 (by omega)
            have hsl113 : ((.exl [a, b]) : SP).p z2 wR := hvp 2 (by omega)
            have htr114 : ((.tree (.mk 3 [65, 78, 68] .zero [a, b])) : SP).p z3 wR := hvp 3 (by omega)
            obtain rfl : z4 = (exV (.slice Aa a.args.length ca) a) := hvp 4 (by omega)
            obtain rfl : z5 = (exV (.slice Ac c.args.length cc) c) := hvp 5 (by omega)
            have hsl117 : ((.exl [a, c]) : SP).p z6 wR := hvp 6 (by omega)
            have htr118 : ((.tree (.mk 3 [65, 78, 68] .zero [a, c])) : SP).p z7 wR := hvp 7 (by omega)
            have hsl119 : ((.exl [(.mk 3 [65, 78, 68] .zero [a, b]), (.mk 3 [65, 78, 68] .zero [a, c])]) : SP).p z8 wR := hvp 8 (by omega)
            have htr120 : ((.tree (.mk 3 [79, 82] .zero [(.mk 3 [65, 78, 68] .zero [a, b]), (.mk 3 [65, 78, 68] .zero [a, c])])) : SP).p z9 wR := hvp 9 (by omega)
            obtain rfl : z10 = (.slice Ar row.length cr) := hvp 10 (by omega)
            obtain rfl : z11 = (.tuple #[valV Q.1, .bool (decide (Q.2 = 0))]) := hvp 11 (by omega)
            obtain rfl : z12 = (.tuple #[valV Q.1, .bool (decide (Q.2 = 0))]) := hvp 12 (by omega)
            obtain rfl : z13 = (valV Q.1) := hvp 13 (by omega)
            have hfr : ((.fresh W4.heap.size 23 (valCs .zero)) : SP).p z15 wR := hvp 14 (by omega)
            clear hvl hvp
            simp only [putAll, Act.put, List.setIfInBounds_toArray, List.set_cons_succ, List.set_cons_zero, List.take_succ_cons, List.take_zero, List.drop_succ_cons, List.drop_zero, List.eraseIdx_cons_succ, List.eraseIdx_cons_zero]
            obtain ⟨g, rfl, hg, hrg⟩ := hfr
            have y0 : wR.cell? ⟨g, 0, none⟩ = some (.int .i64 0) := hrg.cell 0
            have y1 : wR.cell? ⟨g, 1, none⟩ = some (.int .i64 0) := hrg.cell 1
            have y2 : wR.cell? ⟨g, 2, none⟩ = some (.string (str [])) := hrg.cell 2
            have x0 : wR.frozen? ⟨g, 0, none⟩ = false := hrg.frozen 0
            have x1 : wR.frozen? ⟨g, 1, none⟩ = false := hrg.frozen 1
            have x2 : wR.frozen? ⟨g, 2, none⟩ = false := hrg.frozen 2
            have Hrg := Lib.hid hrg
            have HsR := Lib.hid hsR
            have zG := hrg.lt
            clear hsR hrg 
            go_wp2
            go_meet
            exact ⟨_, g, rfl, rfl, rfl, hg, Hrg.out.set3 _, HsR.out.set3 (fun h => by omega) _ _ _⟩
      case rest =>
        obtain ⟨W5, g5, rfl, rfl, rfl, hg5, hr5, hS⟩ := hcut
        have hra := Hra.out.keep hS trivial
        have hrb := Hrb.out.keep hS trivial
        have hrc' := Hrc.out.keep hS trivial
        clear Hra Hrb Hrc
        have hr0 := Hr0.out.keep hS trivial
        have hr1 := Hr1.out.keep hS trivial
        have hr2 := Hr2.out.keep hS trivial
        have hr3 := Hr3.out.keep hS trivial
        have hr4 := Hr4.out.keep hS trivial
        have HT5 := Lib.hid (HT4.out.trans hS)
        clear hS zc EvQ k0 k1 k2 k3 k4 k5 l0 l1 l2 l3 l4 l5 m0 m1 m2 m3 m4 m5
        clear Hr0
        have Hr0 := Lib.hid hr0
        clear hr0
        clear Hr1
        have Hr1 := Lib.hid hr1
        clear hr1
        clear Hr2
        have Hr2 := Lib.hid hr2
        clear hr2
        clear Hr3
        have Hr3 := Lib.hid hr3
        clear hr3
        clear Hr4
        have Hr4 := Lib.hid hr4
        clear hr4
        have Hr5 := Lib.hid hr5
        clear hr5
        have k0 : W5.cell? ⟨w.heap.size, 0, none⟩ = some (.int .i64 a.kind) := hra.cell 0
        have k1 : W5.cell? ⟨w.heap.size, 1, none⟩ = some (.string (str a.s)) := hra.cell 1
        have k2 : W5.cell? ⟨w.heap.size, 2, none⟩ = some (.int .i64 a.v.kind) := hra.cell 2
        have k3 : W5.cell? ⟨w.heap.size, 3, none⟩ = some (.int .i64 a.v.n) := hra.cell 3
        have k4 : W5.cell? ⟨w.heap.size, 4, none⟩ = some (.string (str a.v.s)) := hra.cell 4
        have k5 : W5.cell? ⟨w.heap.size, 5, none⟩ = some (.slice Aa a.args.length ca) := hra.cell 5
        have l0 : W5.cell? ⟨w.heap.size + 1, 0, none⟩ = some (.int .i64 b.kind) := hrb.cell 0
        have l1 : W5.cell? ⟨w.heap.size + 1, 1, none⟩ = some (.string (str b.s)) := hrb.cell 1
        have l2 : W5.cell? ⟨w.heap.size + 1, 2, none⟩ = some (.int .i64 b.v.kind) := hrb.cell 2
        have l3 : W5.cell? ⟨w.heap.size + 1, 3, none⟩ = some (.int .i64 b.v.n) := hrb.cell 3
        have l4 : W5.cell? ⟨w.heap.size + 1, 4, none⟩ = some (.string (str b.v.s)) := hrb.cell 4
        have l5 : W5.cell? ⟨w.heap.size + 1, 5, none⟩ = some (.slice Ab b.args.length cb) := hrb.cell 5
        have m0 : W5.cell? ⟨w.heap.size + 2, 0, none⟩ = some (.int .i64 c.kind) := hrc'.cell 0
        have m1 : W5.cell? ⟨w.heap.size + 2, 1, none⟩ = some (.string (str c.s)) := hrc'.cell 1
        have m2 : W5.cell? ⟨w.heap.size + 2, 2, none⟩ = some (.int .i64 c.v.kind) := hrc'.cell 2
        have m3 : W5.cell? ⟨w.heap.size + 2, 3, none⟩ = some (.int .i64 c.v.n) := hrc'.cell 3
        have m4 : W5.cell? ⟨w.heap.size + 2, 4, none⟩ = some (.string (str c.v.s)) := hrc'.cell 4
        have m5 : W5.cell? ⟨w.heap.size + 2, 5, none⟩ = some (.slice Ac c.args.length cc) := hrc'.cell 5
        have zc := hrc'.lt
        have Hra := Lib.hid hra
        have Hrb := Lib.hid hrb
        have Hrc := Lib.hid hrc'
        clear hra hrb hrc'
        have Hc0 : Hid (Same (fun _ => True) W5 W5) := Lib.hid (Same.refl _ _)
        go_wp2_with (go_at_call 21; refine stopAt ?_)
        unfold Hid
        refine (op_v _ [78, 79, 84] [a] _ (ExL.fresh1 W5 (Hva.out.keepAll (HT5.out.trans Hc0.out)))).mono ?_
        rintro e' q6_0 ⟨_, rfl, ⟨u0, rfl, ht⟩, hS⟩
        have Ht0 := Lib.hid ht
        have Hc1 : Hid (Same (fun _ => True) W5 q6_0) := Lib.hid ((Hc0.out.alloc _).trans hS)
        clear ht hS
        go_wp2_with (go_at_call 20; refine stopAt ?_)
        unfold Hid
        refine (EvL.out _ _ _ ⟨_, rfl, Ht0.out⟩ (RowR.keepAll Hrow.out (HT5.out.trans Hc1.out))).mono ?_
        rintro e' v6 ⟨rfl, hS⟩
        have hS9 := Hc1.out.trans hS
        have hSb := (Same.refl (fun _ => True) v6).alloc (.cells (valCs L.1).toArray 23)
        have hr6 := Row.new v6 23 (valCs L.1)
        obtain ⟨W6, hW⟩ : ∃ W, W = v6.alloc (.cells (valCs L.1).toArray 23) := ⟨_, rfl⟩
        have e0 := hW
        rw [← hW] at hSb hr6
        simp only [valCs] at e0
        have HE0 := Lib.hid e0
        have hS := hS9.trans hSb
        clear e0 hW hS9 hSb
        go_upto_region 12 with (fail)
        rw [← HE0.out]
        clear HE0
        generalize v6.heap.size = g6 at *
        have hra := Hra.out.keep hS trivial
        have hrb := Hrb.out.keep hS trivial
        have hrc' := Hrc.out.keep hS trivial
        clear Hra Hrb Hrc
        have hr0 := Hr0.out.keep hS trivial
        have hr1 := Hr1.out.keep hS trivial
        have hr2 := Hr2.out.keep hS trivial
        have hr3 := Hr3.out.keep hS trivial
        have hr4 := Hr4.out.keep hS trivial
        have hr5 := Hr5.out.keep hS trivial
        have HT6 := Lib.hid (HT5.out.trans hS)
        clear hS zc EvL k0 k1 k2 k3 k4 k5 l0 l1 l2 l3 l4 l5 m0 m1 m2 m3 m4 m5 Hc0 Hc1
        clear Hr0
        have Hr0 := Lib.hid hr0
        clear hr0
        clear Hr1
        have Hr1 := Lib.hid hr1
        clear hr1
        clear Hr2
        have Hr2 := Lib.hid hr2
        clear hr2
        clear Hr3
        have Hr3 := Lib.hid hr3
        clear hr3
        clear Hr4
        have Hr4 := Lib.hid hr4
        clear hr4
        clear Hr5
        have Hr5 := Lib.hid hr5
        clear hr5
        have Hr6 := Lib.hid hr6
        clear hr6

        obtain ⟨ffg, fxy, fhl, fzv, fjk, fpq⟩ := HLF.out
        rw [ffg, fhl, fjk]
        rw [fxy] at Hr0
        rw [fpq] at Hr4
        generalize hBY : decide (Y.2 = 0) = BY at *
        generalize hBQ : decide (Q.2 = 0) = BQ at *
        have qy := val_runeq Y.1 Y.1
        have qq := val_runeq Q.1 Q.1
        have qv := val_runeq V.1 V.1
        rw [show decide (Y.1 = Y.1) = true from by simp] at qy
        rw [show decide (Q.1 = Q.1) = true from by simp] at qq
        rw [show decide (V.1 = V.1) = true from by simp] at qv
        have x0 : W6.cell? ⟨g0, 0, none⟩ = some (.int .i64 Y.1.kind) := Hr0.out.cell 0
        have x1 : W6.cell? ⟨g0, 1, none⟩ = some (.int .i64 Y.1.n) := Hr0.out.cell 1
        have x2 : W6.cell? ⟨g0, 2, none⟩ = some (.string (str Y.1.s)) := Hr0.out.cell 2
        have y0 : W6.cell? ⟨g1, 0, none⟩ = some (.int .i64 Y.1.kind) := Hr1.out.cell 0
        have y1 : W6.cell? ⟨g1, 1, none⟩ = some (.int .i64 Y.1.n) := Hr1.out.cell 1
        have y2 : W6.cell? ⟨g1, 2, none⟩ = some (.string (str Y.1.s)) := Hr1.out.cell 2
        have v0 : W6.cell? ⟨g3, 0, none⟩ = some (.int .i64 V.1.kind) := Hr3.out.cell 0
        have v1 : W6.cell? ⟨g3, 1, none⟩ = some (.int .i64 V.1.n) := Hr3.out.cell 1
        have v2 : W6.cell? ⟨g3, 2, none⟩ = some (.string (str V.1.s)) := Hr3.out.cell 2
        have p0 : W6.cell? ⟨g4, 0, none⟩ = some (.int .i64 Q.1.kind) := Hr4.out.cell 0
        have p1 : W6.cell? ⟨g4, 1, none⟩ = some (.int .i64 Q.1.n) := Hr4.out.cell 1
        have p2 : W6.cell? ⟨g4, 2, none⟩ = some (.string (str Q.1.s)) := Hr4.out.cell 2
        have q0 : W6.cell? ⟨g5, 0, none⟩ = some (.int .i64 Q.1.kind) := Hr5.out.cell 0
        have q1 : W6.cell? ⟨g5, 1, none⟩ = some (.int .i64 Q.1.n) := Hr5.out.cell 1
        have q2 : W6.cell? ⟨g5, 2, none⟩ = some (.string (str Q.1.s)) := Hr5.out.cell 2
        have zx := Hr0.out.lt
        have zy := Hr1.out.lt
        have zv := Hr3.out.lt
        have zp := Hr4.out.lt
        have zq := Hr5.out.lt
        by_cases hZ : Z.2 = 0
        · have eZ := fzv hZ
          have bl : decide (L.2 = 0) = true := by rw [← fhl]; simpa using hZ
          rw [bl]
          rw [eZ] at Hr2
          have z0 : W6.cell? ⟨g2, 0, none⟩ = some (.int .i64 V.1.kind) := Hr2.out.cell 0
          have z1 : W6.cell? ⟨g2, 1, none⟩ = some (.int .i64 V.1.n) := Hr2.out.cell 1
          have z2 : W6.cell? ⟨g2, 2, none⟩ = some (.string (str V.1.s)) := Hr2.out.cell 2
          have zz := Hr2.out.lt
          have k1 : (V.1.kind != 1) = !decide (V.1.kind = 1) := rfl
          have k0 : (V.1.kind != 0) = !decide (V.1.kind = 0) := rfl
          generalize decide (V.2 = 0) = BV at *
          generalize decide (V.1.kind = 1) = B1 at k1
          generalize decide (V.1.kind = 0) = B0 at k0
          clear hZ eZ bl fzv ffg fxy fhl fjk fpq HLF hBY hBQ
          cases BV <;> cases B1 <;> cases B0 <;> simp only [Bool.not_true, Bool.not_false] at k1 k0
          all_goals
            go_wp2
            go_ret
            exact ⟨by simp, HT6.out⟩
        · have bl : decide (L.2 = 0) = false := by rw [← fhl]; simpa using hZ
          rw [bl]
          clear hZ bl fzv ffg fxy fhl fjk fpq HLF hBY hBQ
          go_wp2
          go_ret
          exact ⟨by simp, HT6.out⟩
end Go.Proofs.Ytakbikibahhepaa
