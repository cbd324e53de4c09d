/-
  The walk of ExprTypes.
-/
import Derived.Test.YtakbikibahhepaaExR3
set_option linter.unusedSimpArgs false
set_option linter.unusedVariables false
namespace Go.Proofs.Ytakbikibahhepaa
open Go.RowKit

set_option maxRecDepth 100000 in
set_option maxHeartbeats 1000000 in
/-- As table_any; the columns lie in a block of their own. -/
theorem table_own (w : World) : Calls Try.prog 12 #[] w (fun e w' => ∃ u, e = .returned (tabV u tab0) ∧ ClR w' (fun k => w.heap.size ≤ k) u cols3 ∧ Same (fun _ => True) w w') := by
  go_enter Try.func12, Try.ntmps12
  go_wp2
  refine bodyPost_ret (v := tabV (.slice (some ⟨w.heap.size + 1, 0, none⟩) 3 3) tab0) ?_ rfl ⟨_, rfl, ?_, ?_⟩
  · simp [results, Try.results12, go_sem, tab0, str]
  · refine ⟨_, 3, rfl, by simp [cols3], by simp [maxLen], ?_⟩
    have h := (Row.new (w.alloc (.cells #[.string ⟨#[84]⟩, .slice (some ⟨w.heap.size + 1, 0, none⟩) 3 3, .int .i64 0, .int .i64 0, .int .i64 0, .slice none 0 0, .slice none 0 0, .slice none 0 0, .int .i64 0, .int .i64 0, .int .i64 0] 32)) 57 (cols3.flatMap colCs)).sl (size := 3) (off := 0) (n := 3) (by simp [cols3, colCs])
    rw [List.drop_zero, List.take_of_length_le (by simp [cols3, colCs]), World.size_alloc] at h
    exact h.mono (fun k _ hk => by rw [hk]; omega)
  · exact ((Same.refl _ _).alloc _).alloc _
set_option maxRecDepth 100000 in
set_option maxHeartbeats 16000000 in
theorem types_walk (u cu : Value) (e : Ex) (own : Bool) (t : TabT) (cols : List Clm) (w : World) (hv : ExR w (fun _ => True) u e) (ht : TabR w (fun _ => True) cu t cols) :
    Calls Try.prog 3 #[exV u e, .bool own, tabV cu t] w (BoolP true w) := by
  have hv' := hv
  have ht' := ht
  obtain ⟨hcl, a1, n1, c1, a2, n2, c2, a3, n3, c3, q1, q2, q3⟩ := ht
  obtain ⟨Ac, cc, rfl, hcc, hcm⟩ := hcl.form
  obtain ⟨nm, key, place, region, v1, v2, v3, elect, commit, survive⟩ := t
  simp only at q1 q2 q3
  subst q1 q2 q3
  obtain ⟨A, c, rfl, hc, hm⟩ := hv.toL.form
  unfold maxLen at hm hcm
  obtain ⟨TC, hTC⟩ : ∃ TC, TC = tabCs (.slice Ac cols.length cc) ⟨nm, key, place, region, .slice a1 n1 c1, .slice a2 n2 c2, .slice a3 n3 c3, elect, commit, survive⟩ := ⟨_, rfl⟩
  have hS0 := ((Same.refl (fun _ => True) w).alloc (.cells (exCs (.slice A e.args.length c) e).toArray 26)).alloc (.cells TC.toArray 32)
  have hre := (Row.new w 26 (exCs (.slice A e.args.length c) e)).keep ((Same.refl (fun _ => True) _).alloc (.cells TC.toArray 32)) trivial
  have hrt := Row.new (w.alloc (.cells (exCs (.slice A e.args.length c) e).toArray 26)) 32 TC
  rw [World.size_alloc, hTC] at hrt
  rw [hTC] at hS0 hre
  have hls := light_size e 500
  have hli := fun W h => light_any (fun _ => True) e (.slice A e.args.length c) 500 W h (by omega)
  obtain ⟨L, hL⟩ : ∃ L, lightF e 500 = L := ⟨_, rfl⟩
  rw [hL] at hls hli
  have Hls := Lib.hid hls
  have HS0 := Lib.hid hS0
  have Hre := Lib.hid hre
  have Hrt := Lib.hid hrt
  have Hv' := Lib.hid hv'
  have Ht' := Lib.hid ht'
  clear hTC hcl hv hS0 hre hrt hls hL hv' ht'
  go_enter Try.func3, Try.ntmps3
  go_wp2_with (go_at_call 10; refine stopAt ?_)
  unfold Hid
  refine (begun_any _).mono ?_
  rintro e' w1 ⟨rfl, hS1⟩
  have hre1 := Hre.out.keep hS1 trivial
  have hrt1 := Hrt.out.keep hS1 trivial
  have k0 : w1.cell? ⟨w.heap.size, 0, none⟩ = some (.int .i64 e.kind) := hre1.cell 0
  have k1 : w1.cell? ⟨w.heap.size, 1, none⟩ = some (.string (str e.s)) := hre1.cell 1
  have k2 : w1.cell? ⟨w.heap.size, 2, none⟩ = some (.int .i64 e.v.kind) := hre1.cell 2
  have k3 : w1.cell? ⟨w.heap.size, 3, none⟩ = some (.int .i64 e.v.n) := hre1.cell 3
  have k4 : w1.cell? ⟨w.heap.size, 4, none⟩ = some (.string (str e.v.s)) := hre1.cell 4
  have k5 : w1.cell? ⟨w.heap.size, 5, none⟩ = some (.slice A e.args.length c) := hre1.cell 5
  have t1 : w1.cell? ⟨w.heap.size + 1, 1, none⟩ = some (.slice Ac cols.length cc) := hrt1.cell 1
  have HS1 := Lib.hid (HS0.out.trans hS1)
  have Hre1 := Lib.hid hre1
  have Hrt1 := Lib.hid hrt1
  have z1 := hrt1.lt
  have hl1 := hli w1 (Hv'.out.keepAll HS1.out)
  clear hS1 hre1 hrt1 hli
  by_cases hL0 : L = 0
  · subst hL0
    go_wp2_with (go_at_call 11; refine stopAt ?_)
    unfold Hid
    refine hl1.mono ?_
    rintro e' w2 ⟨rfl, hS2⟩
    have HS2 := Lib.hid hS2
    clear hS2 hl1
    go_wp2
    go_ret
    exact ⟨rfl, HS1.out.trans HS2.out⟩
  have hsz : Hid (e.size ≤ 500) := Lib.hid (by have := Hls.out hL0; omega)
  have bL : ((L : Int) == 0) = false := by simp; omega
  clear hL0
  go_wp2_with (go_at_call 11; refine stopAt ?_)
  unfold Hid
  refine hl1.mono ?_
  rintro e' W2 ⟨rfl, hS2⟩
  have HS2 := Lib.hid (HS1.out.trans hS2)
  have hre2 := Hre1.out.keep hS2 trivial
  have hrt2 := Hrt1.out.keep hS2 trivial
  have k0 : W2.cell? ⟨w.heap.size, 0, none⟩ = some (.int .i64 e.kind) := hre2.cell 0
  have k1 : W2.cell? ⟨w.heap.size, 1, none⟩ = some (.string (str e.s)) := hre2.cell 1
  have k2 : W2.cell? ⟨w.heap.size, 2, none⟩ = some (.int .i64 e.v.kind) := hre2.cell 2
  have k3 : W2.cell? ⟨w.heap.size, 3, none⟩ = some (.int .i64 e.v.n) := hre2.cell 3
  have k4 : W2.cell? ⟨w.heap.size, 4, none⟩ = some (.string (str e.v.s)) := hre2.cell 4
  have k5 : W2.cell? ⟨w.heap.size, 5, none⟩ = some (.slice A e.args.length c) := hre2.cell 5
  have t0 : W2.cell? ⟨w.heap.size + 1, 0, none⟩ = some (.string (str nm)) := hrt2.cell 0
  have t1 : W2.cell? ⟨w.heap.size + 1, 1, none⟩ = some (.slice Ac cols.length cc) := hrt2.cell 1
  have t2 : W2.cell? ⟨w.heap.size + 1, 2, none⟩ = some (.int .i64 key) := hrt2.cell 2
  have t3 : W2.cell? ⟨w.heap.size + 1, 3, none⟩ = some (.int .i64 place) := hrt2.cell 3
  have t4 : W2.cell? ⟨w.heap.size + 1, 4, none⟩ = some (.int .i64 region) := hrt2.cell 4
  have t5 : W2.cell? ⟨w.heap.size + 1, 5, none⟩ = some (.slice a1 n1 c1) := hrt2.cell 5
  have t6 : W2.cell? ⟨w.heap.size + 1, 6, none⟩ = some (.slice a2 n2 c2) := hrt2.cell 6
  have t7 : W2.cell? ⟨w.heap.size + 1, 7, none⟩ = some (.slice a3 n3 c3) := hrt2.cell 7
  have t8 : W2.cell? ⟨w.heap.size + 1, 8, none⟩ = some (.int .i64 elect) := hrt2.cell 8
  have t9 : W2.cell? ⟨w.heap.size + 1, 9, none⟩ = some (.int .i64 commit) := hrt2.cell 9
  have t10 : W2.cell? ⟨w.heap.size + 1, 10, none⟩ = some (.int .i64 survive) := hrt2.cell 10
  have z2 := hrt2.lt
  have Hre2 := Lib.hid hre2
  have Hrt2 := Lib.hid hrt2
  clear hS2 hl1 hre2 hrt2 z1
  by_cases hr12 : 12 < cols.length
  · have x1 : (12 : Int) < (cols.length : Int) := by omega
    clear hr12
    go_wp2
    go_ret
    exact ⟨rfl, HS2.out⟩
  have x1 : (cols.length : Int) ≤ 12 := by omega
  clear hr12
  cases own
  · go_wp2_with (go_at_call 12; refine stopAt ?_)
    unfold Hid
    refine (table_own _).mono ?_
    rintro e' W4 ⟨u5, rfl, ht5, hS4⟩
    obtain ⟨A0, c0, rfl, -, -⟩ := ht5.form
    have HS4 := Lib.hid (HS2.out.trans hS4)
    have hre4 := Hre2.out.keep hS4 trivial
    have hrt4 := Hrt2.out.keep hS4 trivial
    have Ht5 := Lib.hid ht5
    have k0 : W4.cell? ⟨w.heap.size, 0, none⟩ = some (.int .i64 e.kind) := hre4.cell 0
    have k1 : W4.cell? ⟨w.heap.size, 1, none⟩ = some (.string (str e.s)) := hre4.cell 1
    have k2 : W4.cell? ⟨w.heap.size, 2, none⟩ = some (.int .i64 e.v.kind) := hre4.cell 2
    have k3 : W4.cell? ⟨w.heap.size, 3, none⟩ = some (.int .i64 e.v.n) := hre4.cell 3
    have k4 : W4.cell? ⟨w.heap.size, 4, none⟩ = some (.string (str e.v.s)) := hre4.cell 4
    have k5 : W4.cell? ⟨w.heap.size, 5, none⟩ = some (.slice A e.args.length c) := hre4.cell 5
    have t0 : W4.cell? ⟨w.heap.size + 1, 0, none⟩ = some (.string (str nm)) := hrt4.cell 0
    have t1 : W4.cell? ⟨w.heap.size + 1, 1, none⟩ = some (.slice Ac cols.length cc) := hrt4.cell 1
    have t2 : W4.cell? ⟨w.heap.size + 1, 2, none⟩ = some (.int .i64 key) := hrt4.cell 2
    have t3 : W4.cell? ⟨w.heap.size + 1, 3, none⟩ = some (.int .i64 place) := hrt4.cell 3
    have t4 : W4.cell? ⟨w.heap.size + 1, 4, none⟩ = some (.int .i64 region) := hrt4.cell 4
    have t5 : W4.cell? ⟨w.heap.size + 1, 5, none⟩ = some (.slice a1 n1 c1) := hrt4.cell 5
    have t6 : W4.cell? ⟨w.heap.size + 1, 6, none⟩ = some (.slice a2 n2 c2) := hrt4.cell 6
    have t7 : W4.cell? ⟨w.heap.size + 1, 7, none⟩ = some (.slice a3 n3 c3) := hrt4.cell 7
    have t8 : W4.cell? ⟨w.heap.size + 1, 8, none⟩ = some (.int .i64 elect) := hrt4.cell 8
    have t9 : W4.cell? ⟨w.heap.size + 1, 9, none⟩ = some (.int .i64 commit) := hrt4.cell 9
    have t10 : W4.cell? ⟨w.heap.size + 1, 10, none⟩ = some (.int .i64 survive) := hrt4.cell 10
    have s0 : W4.frozen? ⟨w.heap.size + 1, 0, none⟩ = false := hrt4.frozen 0
    have s1 : W4.frozen? ⟨w.heap.size + 1, 1, none⟩ = false := hrt4.frozen 1
    have s2 : W4.frozen? ⟨w.heap.size + 1, 2, none⟩ = false := hrt4.frozen 2
    have s3 : W4.frozen? ⟨w.heap.size + 1, 3, none⟩ = false := hrt4.frozen 3
    have s4 : W4.frozen? ⟨w.heap.size + 1, 4, none⟩ = false := hrt4.frozen 4
    have s5 : W4.frozen? ⟨w.heap.size + 1, 5, none⟩ = false := hrt4.frozen 5
    have s6 : W4.frozen? ⟨w.heap.size + 1, 6, none⟩ = false := hrt4.frozen 6
    have s7 : W4.frozen? ⟨w.heap.size + 1, 7, none⟩ = false := hrt4.frozen 7
    have s8 : W4.frozen? ⟨w.heap.size + 1, 8, none⟩ = false := hrt4.frozen 8
    have s9 : W4.frozen? ⟨w.heap.size + 1, 9, none⟩ = false := hrt4.frozen 9
    have s10 : W4.frozen? ⟨w.heap.size + 1, 10, none⟩ = false := hrt4.frozen 10
    have z4 := hrt4.lt
    have Hre4 := Lib.hid hre4
    have Hrt4 := Lib.hid hrt4
    have Z2 := Lib.hid z2
    have y1 : tab0.v1 = .slice none 0 0 := rfl
    have y2 : tab0.v2 = .slice none 0 0 := rfl
    have y3 : tab0.v3 = .slice none 0 0 := rfl
    clear hS4 hre4 hrt4 ht5 z2
    go_wp2_with (with_reducible refine stopDst 26 rfl ?_)
    have hR5 : Row (((((((((((W4.setCell ⟨w.heap.size + 1, 0, none⟩ (.string (str tab0.nm))).setCell ⟨w.heap.size + 1, 1, none⟩ (.slice A0 cols3.length c0)).setCell ⟨w.heap.size + 1, 2, none⟩ (.int .i64 tab0.key)).setCell ⟨w.heap.size + 1, 3, none⟩ (.int .i64 tab0.place)).setCell ⟨w.heap.size + 1, 4, none⟩ (.int .i64 tab0.region)).setCell ⟨w.heap.size + 1, 5, none⟩ (.slice none 0 0)).setCell ⟨w.heap.size + 1, 6, none⟩ (.slice none 0 0)).setCell ⟨w.heap.size + 1, 7, none⟩ (.slice none 0 0)).setCell ⟨w.heap.size + 1, 8, none⟩ (.int .i64 tab0.elect)).setCell ⟨w.heap.size + 1, 9, none⟩ (.int .i64 tab0.commit)).setCell ⟨w.heap.size + 1, 10, none⟩ (.int .i64 tab0.survive)) (w.heap.size + 1) 32 (tabCs (.slice A0 cols3.length c0) tab0) := (((((((((((Hrt4.out.set_ 0 _).set_ 1 _).set_ 2 _).set_ 3 _).set_ 4 _).set_ 5 _).set_ 6 _).set_ 7 _).set_ 8 _).set_ 9 _).set_ 10 _)
    have hS5 : Same (fun k => k ≠ w.heap.size + 1) W4 (((((((((((W4.setCell ⟨w.heap.size + 1, 0, none⟩ (.string (str tab0.nm))).setCell ⟨w.heap.size + 1, 1, none⟩ (.slice A0 cols3.length c0)).setCell ⟨w.heap.size + 1, 2, none⟩ (.int .i64 tab0.key)).setCell ⟨w.heap.size + 1, 3, none⟩ (.int .i64 tab0.place)).setCell ⟨w.heap.size + 1, 4, none⟩ (.int .i64 tab0.region)).setCell ⟨w.heap.size + 1, 5, none⟩ (.slice none 0 0)).setCell ⟨w.heap.size + 1, 6, none⟩ (.slice none 0 0)).setCell ⟨w.heap.size + 1, 7, none⟩ (.slice none 0 0)).setCell ⟨w.heap.size + 1, 8, none⟩ (.int .i64 tab0.elect)).setCell ⟨w.heap.size + 1, 9, none⟩ (.int .i64 tab0.commit)).setCell ⟨w.heap.size + 1, 10, none⟩ (.int .i64 tab0.survive)) := ((((((((((((Same.refl (fun k => k ≠ w.heap.size + 1) W4).setCell (p := ⟨w.heap.size + 1, 0, none⟩) (fun _ h => h rfl) _).setCell (p := ⟨w.heap.size + 1, 1, none⟩) (fun _ h => h rfl) _).setCell (p := ⟨w.heap.size + 1, 2, none⟩) (fun _ h => h rfl) _).setCell (p := ⟨w.heap.size + 1, 3, none⟩) (fun _ h => h rfl) _).setCell (p := ⟨w.heap.size + 1, 4, none⟩) (fun _ h => h rfl) _).setCell (p := ⟨w.heap.size + 1, 5, none⟩) (fun _ h => h rfl) _).setCell (p := ⟨w.heap.size + 1, 6, none⟩) (fun _ h => h rfl) _).setCell (p := ⟨w.heap.size + 1, 7, none⟩) (fun _ h => h rfl) _).setCell (p := ⟨w.heap.size + 1, 8, none⟩) (fun _ h => h rfl) _).setCell (p := ⟨w.heap.size + 1, 9, none⟩) (fun _ h => h rfl) _).setCell (p := ⟨w.heap.size + 1, 10, none⟩) (fun _ h => h rfl) _)
    clear y1 y2 y3
    revert hR5 hS5
    generalize (((((((((((W4.setCell ⟨w.heap.size + 1, 0, none⟩ (.string (str tab0.nm))).setCell ⟨w.heap.size + 1, 1, none⟩ (.slice A0 cols3.length c0)).setCell ⟨w.heap.size + 1, 2, none⟩ (.int .i64 tab0.key)).setCell ⟨w.heap.size + 1, 3, none⟩ (.int .i64 tab0.place)).setCell ⟨w.heap.size + 1, 4, none⟩ (.int .i64 tab0.region)).setCell ⟨w.heap.size + 1, 5, none⟩ (.slice none 0 0)).setCell ⟨w.heap.size + 1, 6, none⟩ (.slice none 0 0)).setCell ⟨w.heap.size + 1, 7, none⟩ (.slice none 0 0)).setCell ⟨w.heap.size + 1, 8, none⟩ (.int .i64 tab0.elect)).setCell ⟨w.heap.size + 1, 9, none⟩ (.int .i64 tab0.commit)).setCell ⟨w.heap.size + 1, 10, none⟩ (.int .i64 tab0.survive)) = W5
    intro hR5 hS5
    have hre5 := Hre4.out.keep hS5 (by omega)
    have hS5w : Same (fun _ => True) w W5 := HS4.out.trans' hS5 fun k hk _ => by omega
    have hcl5 : ClR W5 (fun _ => True) (.slice A0 cols3.length c0) cols3 :=
      ((Ht5.out.mono (by omega) (S' := fun k => k ≠ w.heap.size + 1) (fun k _ hk => by have := Z2.out; omega)).keep hS5).mono (by omega) (fun _ _ _ => trivial)
    have HS5 := Lib.hid hS5w
    have Hre5 := Lib.hid hre5
    have Hrt5 := Lib.hid hR5
    have Htab : Hid (TabR W5 (fun _ => True) (.slice A0 cols3.length c0) tab0 cols3) := Lib.hid ⟨hcl5, _, _, _, _, _, _, _, _, _, rfl, rfl, rfl⟩
    have Hvx := Lib.hid (Hv'.out.keepAll hS5w)
    clear hR5 hS5 hre5 hS5w hcl5 k0 k1 k2 k3 k4 k5 t0 t1 t2 t3 t4 t5 t6 t7 t8 t9 t10 s0 s1 s2 s3 s4 s5 s6 s7 s8 s9 s10 z4
    have k0 : W5.cell? ⟨w.heap.size, 0, none⟩ = some (.int .i64 e.kind) := Hre5.out.cell 0
    have k1 : W5.cell? ⟨w.heap.size, 1, none⟩ = some (.string (str e.s)) := Hre5.out.cell 1
    have k2 : W5.cell? ⟨w.heap.size, 2, none⟩ = some (.int .i64 e.v.kind) := Hre5.out.cell 2
    have k3 : W5.cell? ⟨w.heap.size, 3, none⟩ = some (.int .i64 e.v.n) := Hre5.out.cell 3
    have k4 : W5.cell? ⟨w.heap.size, 4, none⟩ = some (.string (str e.v.s)) := Hre5.out.cell 4
    have k5 : W5.cell? ⟨w.heap.size, 5, none⟩ = some (.slice A e.args.length c) := Hre5.out.cell 5
    have t0 : W5.cell? ⟨w.heap.size + 1, 0, none⟩ = some (.string (str tab0.nm)) := Hrt5.out.cell 0
    have t1 : W5.cell? ⟨w.heap.size + 1, 1, none⟩ = some (.slice A0 cols3.length c0) := Hrt5.out.cell 1
    have t2 : W5.cell? ⟨w.heap.size + 1, 2, none⟩ = some (.int .i64 tab0.key) := Hrt5.out.cell 2
    have t3 : W5.cell? ⟨w.heap.size + 1, 3, none⟩ = some (.int .i64 tab0.place) := Hrt5.out.cell 3
    have t4 : W5.cell? ⟨w.heap.size + 1, 4, none⟩ = some (.int .i64 tab0.region) := Hrt5.out.cell 4
    have t5 : W5.cell? ⟨w.heap.size + 1, 5, none⟩ = some (.slice none 0 0) := Hrt5.out.cell 5
    have t6 : W5.cell? ⟨w.heap.size + 1, 6, none⟩ = some (.slice none 0 0) := Hrt5.out.cell 6
    have t7 : W5.cell? ⟨w.heap.size + 1, 7, none⟩ = some (.slice none 0 0) := Hrt5.out.cell 7
    have t8 : W5.cell? ⟨w.heap.size + 1, 8, none⟩ = some (.int .i64 tab0.elect) := Hrt5.out.cell 8
    have t9 : W5.cell? ⟨w.heap.size + 1, 9, none⟩ = some (.int .i64 tab0.commit) := Hrt5.out.cell 9
    have t10 : W5.cell? ⟨w.heap.size + 1, 10, none⟩ = some (.int .i64 tab0.survive) := Hrt5.out.cell 10
    have z5 := Hrt5.out.lt
    have hty := exType_any _ _ _ cols3 e (fun _ => True) W5 Hvx.out Htab.out (by have := hsz.out; omega)
    obtain ⟨T, hT⟩ : ∃ T, typeF cols3 e = T := ⟨_, rfl⟩
    rw [hT] at hty
    obtain ⟨tk, te⟩ := T
    go_wp2_with (go_at_call 13; refine stopAt ?_)
    unfold Hid
    refine hty.mono ?_
    rintro e' W7 ⟨rfl, hS7⟩
    have HS7 := Lib.hid (HS5.out.trans hS7)
    have hre7 := Hre5.out.keep hS7 trivial
    have hrt7 := Hrt5.out.keep hS7 trivial
    have k0 : W7.cell? ⟨w.heap.size, 0, none⟩ = some (.int .i64 e.kind) := hre7.cell 0
    have k1 : W7.cell? ⟨w.heap.size, 1, none⟩ = some (.string (str e.s)) := hre7.cell 1
    have k2 : W7.cell? ⟨w.heap.size, 2, none⟩ = some (.int .i64 e.v.kind) := hre7.cell 2
    have k3 : W7.cell? ⟨w.heap.size, 3, none⟩ = some (.int .i64 e.v.n) := hre7.cell 3
    have k4 : W7.cell? ⟨w.heap.size, 4, none⟩ = some (.string (str e.v.s)) := hre7.cell 4
    have k5 : W7.cell? ⟨w.heap.size, 5, none⟩ = some (.slice A e.args.length c) := hre7.cell 5
    have t0 : W7.cell? ⟨w.heap.size + 1, 0, none⟩ = some (.string (str tab0.nm)) := hrt7.cell 0
    have t1 : W7.cell? ⟨w.heap.size + 1, 1, none⟩ = some (.slice A0 cols3.length c0) := hrt7.cell 1
    have t2 : W7.cell? ⟨w.heap.size + 1, 2, none⟩ = some (.int .i64 tab0.key) := hrt7.cell 2
    have t3 : W7.cell? ⟨w.heap.size + 1, 3, none⟩ = some (.int .i64 tab0.place) := hrt7.cell 3
    have t4 : W7.cell? ⟨w.heap.size + 1, 4, none⟩ = some (.int .i64 tab0.region) := hrt7.cell 4
    have t5 : W7.cell? ⟨w.heap.size + 1, 5, none⟩ = some (.slice none 0 0) := hrt7.cell 5
    have t6 : W7.cell? ⟨w.heap.size + 1, 6, none⟩ = some (.slice none 0 0) := hrt7.cell 6
    have t7 : W7.cell? ⟨w.heap.size + 1, 7, none⟩ = some (.slice none 0 0) := hrt7.cell 7
    have t8 : W7.cell? ⟨w.heap.size + 1, 8, none⟩ = some (.int .i64 tab0.elect) := hrt7.cell 8
    have t9 : W7.cell? ⟨w.heap.size + 1, 9, none⟩ = some (.int .i64 tab0.commit) := hrt7.cell 9
    have t10 : W7.cell? ⟨w.heap.size + 1, 10, none⟩ = some (.int .i64 tab0.survive) := hrt7.cell 10
    have z7 := hrt7.lt
    have hty7 := refType_any _ _ _ cols3 e (fun _ => True) W7 (Hvx.out.keepAll hS7) (Htab.out.keepAll hS7) (by have := hsz.out; omega)
    rw [hT] at hty7
    clear hty hT hS7 hre7 hrt7
    go_wp2_with (go_at_call 14; refine stopAt ?_)
    unfold Hid
    refine hty7.mono ?_
    rintro e' W8 ⟨rfl, hS8⟩
    have HS8 := Lib.hid hS8
    clear hS8 hty7
    go_wp2
    go_ret
    exact ⟨by simp, HS7.out.trans HS8.out⟩
  · have Htx := Lib.hid (Ht'.out.keepAll HS2.out)
    have Hvx := Lib.hid (Hv'.out.keepAll HS2.out)
    have hty := exType_any _ _ _ cols e (fun _ => True) W2 Hvx.out Htx.out (by have := hsz.out; omega)
    obtain ⟨T, hT⟩ : ∃ T, typeF cols e = T := ⟨_, rfl⟩
    rw [hT] at hty
    obtain ⟨tk, te⟩ := T
    go_wp2_with (go_at_call 13; refine stopAt ?_)
    unfold Hid
    refine hty.mono ?_
    rintro e' W7 ⟨rfl, hS7⟩
    have HS7 := Lib.hid (HS2.out.trans hS7)
    have hre7 := Hre2.out.keep hS7 trivial
    have hrt7 := Hrt2.out.keep hS7 trivial
    have k0 : W7.cell? ⟨w.heap.size, 0, none⟩ = some (.int .i64 e.kind) := hre7.cell 0
    have k1 : W7.cell? ⟨w.heap.size, 1, none⟩ = some (.string (str e.s)) := hre7.cell 1
    have k2 : W7.cell? ⟨w.heap.size, 2, none⟩ = some (.int .i64 e.v.kind) := hre7.cell 2
    have k3 : W7.cell? ⟨w.heap.size, 3, none⟩ = some (.int .i64 e.v.n) := hre7.cell 3
    have k4 : W7.cell? ⟨w.heap.size, 4, none⟩ = some (.string (str e.v.s)) := hre7.cell 4
    have k5 : W7.cell? ⟨w.heap.size, 5, none⟩ = some (.slice A e.args.length c) := hre7.cell 5
    have t0 : W7.cell? ⟨w.heap.size + 1, 0, none⟩ = some (.string (str nm)) := hrt7.cell 0
    have t1 : W7.cell? ⟨w.heap.size + 1, 1, none⟩ = some (.slice Ac cols.length cc) := hrt7.cell 1
    have t2 : W7.cell? ⟨w.heap.size + 1, 2, none⟩ = some (.int .i64 key) := hrt7.cell 2
    have t3 : W7.cell? ⟨w.heap.size + 1, 3, none⟩ = some (.int .i64 place) := hrt7.cell 3
    have t4 : W7.cell? ⟨w.heap.size + 1, 4, none⟩ = some (.int .i64 region) := hrt7.cell 4
    have t5 : W7.cell? ⟨w.heap.size + 1, 5, none⟩ = some (.slice a1 n1 c1) := hrt7.cell 5
    have t6 : W7.cell? ⟨w.heap.size + 1, 6, none⟩ = some (.slice a2 n2 c2) := hrt7.cell 6
    have t7 : W7.cell? ⟨w.heap.size + 1, 7, none⟩ = some (.slice a3 n3 c3) := hrt7.cell 7
    have t8 : W7.cell? ⟨w.heap.size + 1, 8, none⟩ = some (.int .i64 elect) := hrt7.cell 8
    have t9 : W7.cell? ⟨w.heap.size + 1, 9, none⟩ = some (.int .i64 commit) := hrt7.cell 9
    have t10 : W7.cell? ⟨w.heap.size + 1, 10, none⟩ = some (.int .i64 survive) := hrt7.cell 10
    have z7 := hrt7.lt
    have hty7 := refType_any _ _ _ cols e (fun _ => True) W7 (Hvx.out.keepAll hS7) (Htx.out.keepAll hS7) (by have := hsz.out; omega)
    rw [hT] at hty7
    clear hty hT hS7 hre7 hrt7
    go_wp2_with (go_at_call 14; refine stopAt ?_)
    unfold Hid
    refine hty7.mono ?_
    rintro e' W8 ⟨rfl, hS8⟩
    have HS8 := Lib.hid hS8
    clear hS8 hty7
    go_wp2
    go_ret
    exact ⟨by simp, HS7.out.trans HS8.out⟩
end Go.Proofs.Ytakbikibahhepaa
