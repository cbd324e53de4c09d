/-
  The walks of the document's Eval and True.
-/
import Derived.Test.YtakbikibahhepaaExR7
set_option linter.unusedSimpArgs false
set_option linter.unusedVariables false
namespace Go.Proofs.Ytakbikibahhepaa
open Go.RowKit

set_option maxHeartbeats 400000 in
theorem refTrue_any (v : Val) (w : World) : Calls Try.prog 18 #[valV v] w (BoolP (isTrue v) w) := by
  obtain ⟨vk, vn, vs⟩ := v
  go_enter Try.func18, Try.ntmps18
  go_wp2
  all_goals
    go_ret
    refine ⟨?_, (Same.refl _ _).alloc _⟩
    simp_all [isTrue]
theorem refEval_results {W : World} {k : Nat} {v : Val} {n : Int} (R : Row W k 23 (valCs v)) {tmps : Array Value} (h1 : tmps.getD 6 undef = .pointer (some ⟨k, 0, none⟩)) (h2 : tmps.getD 7 undef = .int .i64 n) :
    (results Try.f16 tmps).run Try.prog W = .ok (.tuple #[valV v, .int .i64 n]) W := by
  have d0 : W.cell? ⟨k, 0, none⟩ = some (.int .i64 v.kind) := R.cell 0
  have d1 : W.cell? ⟨k, 1, none⟩ = some (.int .i64 v.n) := R.cell 1
  have d2 : W.cell? ⟨k, 2, none⟩ = some (.string (str v.s)) := R.cell 2
  simp at h1 h2
  simp [results, Try.results16, h1, h2, go_sem, d0, d1, d2]
set_option maxRecDepth 100000 in
set_option maxHeartbeats 8000000 in
theorem refEval_any (u cu rv : Value) (t : TabT) (cols : List Clm) (row : List Val) (e : Ex) (S : Nat → Prop) (w : World) (hv : ExR w S u e) (ht : TabR w S cu t cols) (hrow : VaR w S rv row) (hsz : e.size ≤ 100000) (hei : ExI e) (hri : ∀ x ∈ row, i64B x.n = true) :
    Calls Try.prog 16 #[tabV cu t, rv, exV u e] w (ValEP (evalTF cols row e) w) := by
  have ht' := ht
  have hv' := hv
  obtain ⟨hcl, a1, n1, c1, a2, n2, c2, a3, n3, c3, q1, q2, q3⟩ := ht
  obtain ⟨Ac, cc, rfl, hcc, hcm⟩ := hcl.form
  obtain ⟨nm, key, place, region, v1, v2, v3, elect, commit, survive⟩ := t
  simp only at q1 q2 q3
  subst q1 q2 q3
  obtain ⟨A, c, rfl, hc, hm⟩ := hv.toL.form
  obtain ⟨Ar, cr, rfl, hrc, hrm⟩ := hrow.form
  unfold maxLen at hm hcm hrm
  obtain ⟨TC, hTC⟩ : ∃ TC, TC = tabCs (.slice Ac cols.length cc) ⟨nm, key, place, region, .slice a1 n1 c1, .slice a2 n2 c2, .slice a3 n3 c3, elect, commit, survive⟩ := ⟨_, rfl⟩
  have hS0 := (((Same.refl (fun _ => True) w).alloc (.cells TC.toArray 32)).alloc (.cells (exCs (.slice A e.args.length c) e).toArray 26)).alloc (.cells (valCs .zero).toArray 23)
  have hrt := ((Row.new w 32 TC).keep ((Same.refl (fun _ => True) _).alloc (.cells (exCs (.slice A e.args.length c) e).toArray 26)) trivial).keep ((Same.refl (fun _ => True) _).alloc (.cells (valCs .zero).toArray 23)) trivial
  have hre := (Row.new (w.alloc (.cells TC.toArray 32)) 26 (exCs (.slice A e.args.length c) e)).keep ((Same.refl (fun _ => True) _).alloc (.cells (valCs .zero).toArray 23)) trivial
  have hrr := Row.new ((w.alloc (.cells TC.toArray 32)).alloc (.cells (exCs (.slice A e.args.length c) e).toArray 26)) 23 (valCs .zero)
  rw [World.size_alloc] at hre
  rw [World.size_alloc, World.size_alloc, show w.heap.size + 1 + 1 = w.heap.size + 2 from rfl] at hrr
  obtain ⟨W0, hW0⟩ : ∃ W0, W0 = ((w.alloc (.cells TC.toArray 32)).alloc (.cells (exCs (.slice A e.args.length c) e).toArray 26)).alloc (.cells (valCs .zero).toArray 23) := ⟨_, rfl⟩
  have HW0 := Lib.hid hW0
  have HTC := Lib.hid hTC
  rw [← hW0] at hS0 hrt hre hrr
  rw [hTC] at hrt
  have HS := Lib.hid hS0
  have Hrt := Lib.hid hrt
  have Hre := Lib.hid hre
  have Hrr := Lib.hid hrr
  have hty := refType_any _ _ _ cols e S W0 (hv'.keepAll hS0) (ht'.keepAll hS0) hsz
  obtain ⟨F, hF⟩ : ∃ F, evalTF cols row e = F := ⟨_, rfl⟩
  have HK : Hid (F = if (typeF cols e).2 ≠ 0 then ((.zero, (typeF cols e).2) : Val × Int) else if mayRowB cols row then evalF cols row e else (.zero, 9)) := Lib.hid (by rw [← hF]; rfl)
  have HTF : Hid ((typeF cols e).2 = 0 → (typedF cols e).2 = 0) := Lib.hid (fun h => by unfold typeF at h; split at h; exact h; cases h)
  obtain ⟨T, hT⟩ : ∃ T, typeF cols e = T := ⟨_, rfl⟩
  rw [hF]
  rw [hT] at hty HK HTF
  have hev := fun (hmr : mayRowB cols row = true) (hok : (typedF cols e).2 = 0) (W : World) (hW : Same (fun _ => True) w W) => refvalue_any _ cols row S hri hmr e hsz hei hok _ _ _ W (hv'.keepAll hW) (ht'.keepAll hW) (RowR.keepAll hrow hW)
  have hmr := fun (W : World) (hW : Same (fun _ => True) w W) => refMayRow_any _ _ _ cols row S W (ht'.keepAll hW) (RowR.keepAll hrow hW)
  obtain ⟨MR, hMR⟩ : ∃ MR, mayRowB cols row = MR := ⟨_, rfl⟩
  rw [hMR] at hmr HK
  have HMR := Lib.hid hMR
  have Hmr := Lib.hid hmr
  clear hmr hMR
  have Hev := Lib.hid hev
  have Hrow := Lib.hid hrow
  have Hcl := Lib.hid hcl
  have k0 : W0.cell? ⟨w.heap.size + 1, 0, none⟩ = some (.int .i64 e.kind) := hre.cell 0
  have k1 : W0.cell? ⟨w.heap.size + 1, 1, none⟩ = some (.string (str e.s)) := hre.cell 1
  have k2 : W0.cell? ⟨w.heap.size + 1, 2, none⟩ = some (.int .i64 e.v.kind) := hre.cell 2
  have k3 : W0.cell? ⟨w.heap.size + 1, 3, none⟩ = some (.int .i64 e.v.n) := hre.cell 3
  have k4 : W0.cell? ⟨w.heap.size + 1, 4, none⟩ = some (.string (str e.v.s)) := hre.cell 4
  have k5 : W0.cell? ⟨w.heap.size + 1, 5, none⟩ = some (.slice A e.args.length c) := hre.cell 5
  have t0 : W0.cell? ⟨w.heap.size, 0, none⟩ = some (.string (str nm)) := hrt.cell 0
  have t1 : W0.cell? ⟨w.heap.size, 1, none⟩ = some (.slice Ac cols.length cc) := hrt.cell 1
  have t2 : W0.cell? ⟨w.heap.size, 2, none⟩ = some (.int .i64 key) := hrt.cell 2
  have t3 : W0.cell? ⟨w.heap.size, 3, none⟩ = some (.int .i64 place) := hrt.cell 3
  have t4 : W0.cell? ⟨w.heap.size, 4, none⟩ = some (.int .i64 region) := hrt.cell 4
  have t5 : W0.cell? ⟨w.heap.size, 5, none⟩ = some (.slice a1 n1 c1) := hrt.cell 5
  have t6 : W0.cell? ⟨w.heap.size, 6, none⟩ = some (.slice a2 n2 c2) := hrt.cell 6
  have t7 : W0.cell? ⟨w.heap.size, 7, none⟩ = some (.slice a3 n3 c3) := hrt.cell 7
  have t8 : W0.cell? ⟨w.heap.size, 8, none⟩ = some (.int .i64 elect) := hrt.cell 8
  have t9 : W0.cell? ⟨w.heap.size, 9, none⟩ = some (.int .i64 commit) := hrt.cell 9
  have t10 : W0.cell? ⟨w.heap.size, 10, none⟩ = some (.int .i64 survive) := hrt.cell 10
  clear hTC hW0 hS0 hrt hre hrr hT hF hev hv ht' hv' hrow hcl hri hei
  go_enter Try.func16, Try.ntmps16
  go_wp2_with (go_at_call 14; refine stopAt ?_)
  unfold Hid
  have e0 := HW0.out
  have e1 := HTC.out
  simp only [tabCs] at e1
  simp only [exCs, e1, valCs, Val.zero, str_nil] at e0
  rw [← e0]
  clear e0 e1
  refine hty.mono ?_
  rintro e' w3 ⟨rfl, hS3⟩
  have HS3 := Lib.hid (HS.out.trans hS3)
  have hrt3 := Hrt.out.keep hS3 trivial
  have hre3 := Hre.out.keep hS3 trivial
  have hrr3 := Hrr.out.keep hS3 trivial
  have Hrt3 := Lib.hid hrt3
  have Hre3 := Lib.hid hre3
  have Hrr3 := Lib.hid hrr3
  clear k0 k1 k2 k3 k4 k5 t0 t1 t2 t3 t4 t5 t6 t7 t8 t9 t10 hty
  have t0 : w3.cell? ⟨w.heap.size, 0, none⟩ = some (.string (str nm)) := hrt3.cell 0
  have t1 : w3.cell? ⟨w.heap.size, 1, none⟩ = some (.slice Ac cols.length cc) := hrt3.cell 1
  have t2 : w3.cell? ⟨w.heap.size, 2, none⟩ = some (.int .i64 key) := hrt3.cell 2
  have t3 : w3.cell? ⟨w.heap.size, 3, none⟩ = some (.int .i64 place) := hrt3.cell 3
  have t4 : w3.cell? ⟨w.heap.size, 4, none⟩ = some (.int .i64 region) := hrt3.cell 4
  have t5 : w3.cell? ⟨w.heap.size, 5, none⟩ = some (.slice a1 n1 c1) := hrt3.cell 5
  have t6 : w3.cell? ⟨w.heap.size, 6, none⟩ = some (.slice a2 n2 c2) := hrt3.cell 6
  have t7 : w3.cell? ⟨w.heap.size, 7, none⟩ = some (.slice a3 n3 c3) := hrt3.cell 7
  have t8 : w3.cell? ⟨w.heap.size, 8, none⟩ = some (.int .i64 elect) := hrt3.cell 8
  have t9 : w3.cell? ⟨w.heap.size, 9, none⟩ = some (.int .i64 commit) := hrt3.cell 9
  have t10 : w3.cell? ⟨w.heap.size, 10, none⟩ = some (.int .i64 survive) := hrt3.cell 10
  have r0 : w3.cell? ⟨w.heap.size + 2, 0, none⟩ = some (.int .i64 0) := hrr3.cell 0
  have r1 : w3.cell? ⟨w.heap.size + 2, 1, none⟩ = some (.int .i64 0) := hrr3.cell 1
  have r2 : w3.cell? ⟨w.heap.size + 2, 2, none⟩ = some (.string (str [])) := hrr3.cell 2
  have f0 : w3.frozen? ⟨w.heap.size + 2, 0, none⟩ = false := hrr3.frozen 0
  have f1 : w3.frozen? ⟨w.heap.size + 2, 1, none⟩ = false := hrr3.frozen 1
  have f2 : w3.frozen? ⟨w.heap.size + 2, 2, none⟩ = false := hrr3.frozen 2
  have z1 := hrr3.lt
  clear hS3 hrt3 hre3 hrr3
  obtain ⟨tk, te⟩ := T
  by_cases h0 : te = 0
  · have K := HK.out.trans (if_neg (by simpa using h0))
    have Hok := Lib.hid (HTF.out (by simpa using h0))
    have HK2 := Lib.hid K
    have b4 : (te != 0) = false := by simpa using h0
    have gmr := Hmr.out w3 HS3.out
    clear K h0
    go_wp2_with (go_at_call 30; refine stopAt ?_)
    unfold Hid
    refine gmr.mono ?_
    rintro e' w4 ⟨rfl, hS4⟩
    have hrt4 := Hrt3.out.keep hS4 trivial
    have hre4 := Hre3.out.keep hS4 trivial
    have hrr4 := Hrr3.out.keep hS4 trivial
    have HS4 := Lib.hid (HS3.out.trans hS4)
    have Hrr4 := Lib.hid hrr4
    clear r0 r1 r2 f0 f1 f2 t0 t1 t2 t3 t4 t5 t6 t7 t8 t9 t10
    cases MR
    · have K : F = (.zero, 9) := HK2.out
      have HKK := Lib.hid K
      have r0 : w4.cell? ⟨w.heap.size + 2, 0, none⟩ = some (.int .i64 0) := hrr4.cell 0
      have r1 : w4.cell? ⟨w.heap.size + 2, 1, none⟩ = some (.int .i64 0) := hrr4.cell 1
      have r2 : w4.cell? ⟨w.heap.size + 2, 2, none⟩ = some (.string (str [])) := hrr4.cell 2
      have f0 : w4.frozen? ⟨w.heap.size + 2, 0, none⟩ = false := hrr4.frozen 0
      have f1 : w4.frozen? ⟨w.heap.size + 2, 1, none⟩ = false := hrr4.frozen 1
      have f2 : w4.frozen? ⟨w.heap.size + 2, 2, none⟩ = false := hrr4.frozen 2
      have z4 := hrr4.lt
      clear K hS4 hrt4 hre4 hrr4 gmr
      go_wp2
      refine bodyPost_ret (refEval_results (n := 9) (Hrr4.out.set3 .zero) rfl rfl) rfl (ValEP.mk' HKK.out ?_)
      exact HS4.out.set3 (fun h => by omega) _ _ _
    · have K : F = evalF cols row e := HK2.out
      have gev := Hev.out HMR.out Hok.out w4 HS4.out
      rw [← K] at gev
      have t0 : w4.cell? ⟨w.heap.size, 0, none⟩ = some (.string (str nm)) := hrt4.cell 0
      have t1 : w4.cell? ⟨w.heap.size, 1, none⟩ = some (.slice Ac cols.length cc) := hrt4.cell 1
      have t2 : w4.cell? ⟨w.heap.size, 2, none⟩ = some (.int .i64 key) := hrt4.cell 2
      have t3 : w4.cell? ⟨w.heap.size, 3, none⟩ = some (.int .i64 place) := hrt4.cell 3
      have t4 : w4.cell? ⟨w.heap.size, 4, none⟩ = some (.int .i64 region) := hrt4.cell 4
      have t5 : w4.cell? ⟨w.heap.size, 5, none⟩ = some (.slice a1 n1 c1) := hrt4.cell 5
      have t6 : w4.cell? ⟨w.heap.size, 6, none⟩ = some (.slice a2 n2 c2) := hrt4.cell 6
      have t7 : w4.cell? ⟨w.heap.size, 7, none⟩ = some (.slice a3 n3 c3) := hrt4.cell 7
      have t8 : w4.cell? ⟨w.heap.size, 8, none⟩ = some (.int .i64 elect) := hrt4.cell 8
      have t9 : w4.cell? ⟨w.heap.size, 9, none⟩ = some (.int .i64 commit) := hrt4.cell 9
      have t10 : w4.cell? ⟨w.heap.size, 10, none⟩ = some (.int .i64 survive) := hrt4.cell 10
      have k0 : w4.cell? ⟨w.heap.size + 1, 0, none⟩ = some (.int .i64 e.kind) := hre4.cell 0
      have k1 : w4.cell? ⟨w.heap.size + 1, 1, none⟩ = some (.string (str e.s)) := hre4.cell 1
      have k2 : w4.cell? ⟨w.heap.size + 1, 2, none⟩ = some (.int .i64 e.v.kind) := hre4.cell 2
      have k3 : w4.cell? ⟨w.heap.size + 1, 3, none⟩ = some (.int .i64 e.v.n) := hre4.cell 3
      have k4 : w4.cell? ⟨w.heap.size + 1, 4, none⟩ = some (.string (str e.v.s)) := hre4.cell 4
      have k5 : w4.cell? ⟨w.heap.size + 1, 5, none⟩ = some (.slice A e.args.length c) := hre4.cell 5
      have z4 := hrr4.lt
      clear K hS4 hrt4 hre4 hrr4 gmr
      go_wp2_with (go_at_call 31; refine stopAt ?_)
      unfold Hid
      refine gev.mono ?_
      rintro e' w5 ⟨rfl, hS5⟩
      have HS5 := Lib.hid hS5
      have hrr5 := Hrr4.out.keep hS5 trivial
      have r0 : w5.cell? ⟨w.heap.size + 2, 0, none⟩ = some (.int .i64 0) := hrr5.cell 0
      have r1 : w5.cell? ⟨w.heap.size + 2, 1, none⟩ = some (.int .i64 0) := hrr5.cell 1
      have r2 : w5.cell? ⟨w.heap.size + 2, 2, none⟩ = some (.string (str [])) := hrr5.cell 2
      have f0 : w5.frozen? ⟨w.heap.size + 2, 0, none⟩ = false := hrr5.frozen 0
      have f1 : w5.frozen? ⟨w.heap.size + 2, 1, none⟩ = false := hrr5.frozen 1
      have f2 : w5.frozen? ⟨w.heap.size + 2, 2, none⟩ = false := hrr5.frozen 2
      have Hrr5 := Lib.hid hrr5
      have z5 := hrr5.lt
      obtain ⟨dv, dn⟩ := F
      clear hS5 gev hrr5 k0 k1 k2 k3 k4 k5 t0 t1 t2 t3 t4 t5 t6 t7 t8 t9 t10
      go_wp2
      refine bodyPost_ret (refEval_results (n := dn) (Hrr5.out.set3 dv) rfl rfl) rfl (ValEP.mk' rfl ?_)
      exact (HS4.out.trans HS5.out).set3 (fun h => by omega) _ _ _
  · have K := HK.out.trans (if_pos (by simpa using h0))
    have HKK := Lib.hid K
    have b4 : (te != 0) = true := by simpa using h0
    clear K h0
    go_wp2
    refine bodyPost_ret (refEval_results (n := te) (Hrr3.out.set3 .zero) rfl rfl) rfl (ValEP.mk' HKK.out ?_)
    exact HS3.out.set3 (fun h => by omega) _ _ _
theorem refEval_v (v u rv : Value) (row : List Val) (e : Ex) (W : World) (ht : TabVal W v) (hv : ExR W (fun _ => True) u e) (hrow : VaR W (fun _ => True) rv row) (hsz : e.size ≤ 100000) (hei : ExI e) (hri : ∀ x ∈ row, i64B x.n = true) :
    Calls Try.prog 16 #[v, rv, exV u e] W (ValEP (evalTF cols3 row e) W) := by
  obtain ⟨cu, rfl, h⟩ := ht
  exact refEval_any u cu rv tab0 cols3 row e (fun _ => True) W hv h hrow hsz hei hri
end Go.Proofs.Ytakbikibahhepaa
