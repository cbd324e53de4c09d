/-
  The walks of expr.Type and expr.Eval.
-/
import Derived.Test.YtakbikibahhepaaExW12
set_option linter.unusedSimpArgs false
set_option linter.unusedVariables false
namespace Go.Proofs.Ytakbikibahhepaa
open Go.RowKit

set_option maxRecDepth 100000 in
set_option maxHeartbeats 4000000 in
theorem exType_any (u cu : Value) (t : TabT) (cols : List Clm) (e : Ex) (S : Nat → Prop) (w : World) (hv : ExR w S u e) (ht : TabR w S cu t cols) (hsz : e.size ≤ 100000) :
    Calls Try.prog 13 #[tabV cu t, exV u e] w (NumS (typeF cols e) w) := by
  obtain ⟨hcl, a1, n1, c1, a2, n2, c2, a3, n3, c3, q1, q2, q3⟩ := ht
  obtain ⟨Ac, cc, rfl, hcc, hcm⟩ := hcl.form
  obtain ⟨nm, key, place, region, v1, v2, v3, elect, commit, survive⟩ := t
  simp only at q1 q2 q3
  subst q1 q2 q3
  obtain ⟨A, c, rfl, hc, hm⟩ := hv.toL.form
  unfold maxLen at hm hcm
  obtain ⟨TC, hTC⟩ : ∃ TC, TC = tabCs (.slice Ac cols.length cc) ⟨nm, key, place, region, .slice a1 n1 c1, .slice a2 n2 c2, .slice a3 n3 c3, elect, commit, survive⟩ := ⟨_, rfl⟩
  have hS0 := (((Same.refl (fun _ => True) w).alloc (.cells TC.toArray 32)).alloc (.cells (exCs (.slice A e.args.length c) e).toArray 26)).alloc (.cells [Value.int .i64 0].toArray 3)
  have hrt := ((Row.new w 32 TC).keep ((Same.refl (fun _ => True) _).alloc (.cells (exCs (.slice A e.args.length c) e).toArray 26)) trivial).keep ((Same.refl (fun _ => True) _).alloc (.cells [Value.int .i64 0].toArray 3)) trivial
  have hre := (Row.new (w.alloc (.cells TC.toArray 32)) 26 (exCs (.slice A e.args.length c) e)).keep ((Same.refl (fun _ => True) _).alloc (.cells [Value.int .i64 0].toArray 3)) trivial
  have hrr := Row.new ((w.alloc (.cells TC.toArray 32)).alloc (.cells (exCs (.slice A e.args.length c) e).toArray 26)) 3 [Value.int .i64 0]
  rw [World.size_alloc] at hre
  rw [World.size_alloc, World.size_alloc, show w.heap.size + 1 + 1 = w.heap.size + 2 from rfl] at hrr
  have HTC := Lib.hid hTC
  have hvg : ExR w (fun k => k ≠ w.heap.size + 2) (.slice A e.args.length c) e := hv.mono fun k hk _ => by omega
  have Hvg := Lib.hid hvg
  have Hcl := Lib.hid hcl
  obtain ⟨W0, hW0⟩ : ∃ W0, W0 = ((w.alloc (.cells TC.toArray 32)).alloc (.cells (exCs (.slice A e.args.length c) e).toArray 26)).alloc (.cells [Value.int .i64 0].toArray 3) := ⟨_, rfl⟩
  have HW0 := Lib.hid hW0
  rw [← hW0] at hS0 hrt hre hrr
  rw [hTC] at hrt
  have HS := Lib.hid hS0
  have Hrt := Lib.hid hrt
  have Hre := Lib.hid hre
  have Hrr := Lib.hid hrr
  have hdis : Hid (w.heap.size ≠ w.heap.size + 2 ∧ w.heap.size + 1 ≠ w.heap.size + 2) := ⟨by omega, by omega⟩
  have HK : Hid (typeF cols e = if (smallF e 1 0).1 then typedF cols e else (0, 3)) := Lib.hid rfl
  obtain ⟨F, hF⟩ : ∃ F, typeF cols e = F := ⟨_, rfl⟩
  rw [hF]
  have HF := Lib.hid hF
  have hsm : ∀ W, ExR W (fun k => k ≠ w.heap.size + 2) (.slice A e.args.length c) e → Row W (w.heap.size + 2) 3 [.int .i64 0] → Calls Try.prog 24 #[exV (.slice A e.args.length c) e, .int .i64 1, .pointer (some ⟨w.heap.size + 2, 0, none⟩)] W (SmallP (smallF e 1 0) (w.heap.size + 2) W) := fun W h1 h2 => exsmall_any (w.heap.size + 2) e (.slice A e.args.length c) 1 0 W h1 h2 (by omega) (by omega)
  obtain ⟨R, hR⟩ : ∃ R, smallF e 1 0 = R := ⟨_, rfl⟩
  rw [hR] at hsm
  have HR := Lib.hid hR
  have hs := hsm W0 (hvg.keepAll hS0) hrr
  have k0 : W0.cell? ⟨w.heap.size + 1, 0, none⟩ = some (.int .i64 e.kind) := hre.cell 0
  have k1 : W0.cell? ⟨w.heap.size + 1, 1, none⟩ = some (.string (str e.s)) := hre.cell 1
  have k2 : W0.cell? ⟨w.heap.size + 1, 2, none⟩ = some (.int .i64 e.v.kind) := hre.cell 2
  have k3 : W0.cell? ⟨w.heap.size + 1, 3, none⟩ = some (.int .i64 e.v.n) := hre.cell 3
  have k4 : W0.cell? ⟨w.heap.size + 1, 4, none⟩ = some (.string (str e.v.s)) := hre.cell 4
  have k5 : W0.cell? ⟨w.heap.size + 1, 5, none⟩ = some (.slice A e.args.length c) := hre.cell 5
  clear hTC hcl hv hF hW0 hvg hS0 hrt hre hrr hR hsm
  go_enter Try.func13, Try.ntmps13
  go_wp2_with (go_at_call 24; refine stopAt ?_)
  unfold Hid
  have e0 := HW0.out
  have e1 := HTC.out
  simp only [tabCs] at e1
  simp only [exCs, e1] at e0
  rw [← e0]
  clear e0 e1
  refine hs.mono ?_
  rintro e' w3 ⟨rfl, hp3, hS3⟩
  have hre3 := Hre.out.keep hS3 hdis.out.2
  have hrt3 := Hrt.out.keep hS3 hdis.out.1
  have k0 : w3.cell? ⟨w.heap.size + 1, 0, none⟩ = some (.int .i64 e.kind) := hre3.cell 0
  have k1 : w3.cell? ⟨w.heap.size + 1, 1, none⟩ = some (.string (str e.s)) := hre3.cell 1
  have k2 : w3.cell? ⟨w.heap.size + 1, 2, none⟩ = some (.int .i64 e.v.kind) := hre3.cell 2
  have k3 : w3.cell? ⟨w.heap.size + 1, 3, none⟩ = some (.int .i64 e.v.n) := hre3.cell 3
  have k4 : w3.cell? ⟨w.heap.size + 1, 4, none⟩ = some (.string (str e.v.s)) := hre3.cell 4
  have k5 : w3.cell? ⟨w.heap.size + 1, 5, none⟩ = some (.slice A e.args.length c) := hre3.cell 5
  have t0 : w3.cell? ⟨w.heap.size, 0, none⟩ = some (.string (str nm)) := hrt3.cell 0
  have t1 : w3.cell? ⟨w.heap.size, 1, none⟩ = some (.slice Ac cols.length cc) := hrt3.cell 1
  have t2 : w3.cell? ⟨w.heap.size, 2, none⟩ = some (.int .i64 key) := hrt3.cell 2
  have t3 : w3.cell? ⟨w.heap.size, 3, none⟩ = some (.int .i64 place) := hrt3.cell 3
  have t4 : w3.cell? ⟨w.heap.size, 4, none⟩ = some (.int .i64 region) := hrt3.cell 4
  have t5 : w3.cell? ⟨w.heap.size, 5, none⟩ = some (.slice a1 n1 c1) := hrt3.cell 5
  have t6 : w3.cell? ⟨w.heap.size, 6, none⟩ = some (.slice a2 n2 c2) := hrt3.cell 6
  have t7 : w3.cell? ⟨w.heap.size, 7, none⟩ = some (.slice a3 n3 c3) := hrt3.cell 7
  have t8 : w3.cell? ⟨w.heap.size, 8, none⟩ = some (.int .i64 elect) := hrt3.cell 8
  have t9 : w3.cell? ⟨w.heap.size, 9, none⟩ = some (.int .i64 commit) := hrt3.cell 9
  have t10 : w3.cell? ⟨w.heap.size, 10, none⟩ = some (.int .i64 survive) := hrt3.cell 10
  have HS3 := Lib.hid hS3
  have hSw : Same (fun _ => True) w w3 := HS.out.trans' hS3 fun k hk _ => by omega
  have HSw := Lib.hid hSw
  have z1 := hre3.lt
  clear hs hp3 hS3 hre3 hrt3 hSw
  obtain ⟨rb, rn⟩ := R
  cases rb
  · have E := HF.out.symm.trans (HK.out.trans (by rw [HR.out]))
    have HE := Lib.hid E
    clear E
    go_wp2
    go_ret2
    exact NumS.mk' HE.out HSw.out
  · have E := HF.out.symm.trans (HK.out.trans (by rw [HR.out]))
    have HE : Hid (F = typedF cols e) := Lib.hid E
    have hty := extyped_any ⟨nm, key, place, region, .slice a1 n1 c1, .slice a2 n2 c2, .slice a3 n3 c3, elect, commit, survive⟩ cols (fun k => k < w.heap.size) e hsz (.slice A e.args.length c) (.slice Ac cols.length cc) w3 (((Hvg.out.mono (S' := fun k => k < w.heap.size) fun k hk _ => hk)).keepAll HSw.out) ⟨(RowR.keepAll (Hcl.out.mono (by omega) (S' := fun k => k < w.heap.size) fun k hk _ => hk) HSw.out), a1, n1, c1, a2, n2, c2, a3, n3, c3, rfl, rfl, rfl⟩
    rw [← HE.out] at hty
    clear E
    go_wp2_with (go_at_call 25; refine stopAt ?_)
    unfold Hid
    refine hty.mono ?_
    rintro e' w4 ⟨rfl, hS4⟩
    have HS4 := Lib.hid hS4
    clear hS4 hty
    go_wp2
    go_ret2
    exact ⟨rfl, HSw.out.trans HS4.out⟩
theorem Eval_results {W : World} {k : Nat} {v : Val} {n : Int} (R : Row W k 23 (valCs v)) {tmps : Array Value} (h1 : tmps.getD 6 undef = .pointer (some ⟨k, 0, none⟩)) (h2 : tmps.getD 7 undef = .int .i64 n) :
    (results Try.f15 tmps).run Try.prog W = .ok (.tuple #[valV v, .int .i64 n]) W := by
  have d0 : W.cell? ⟨k, 0, none⟩ = some (.int .i64 v.kind) := R.cell 0
  have d1 : W.cell? ⟨k, 1, none⟩ = some (.int .i64 v.n) := R.cell 1
  have d2 : W.cell? ⟨k, 2, none⟩ = some (.string (str v.s)) := R.cell 2
  simp at h1 h2
  simp [results, Try.results15, h1, h2, go_sem, d0, d1, d2]
def rowB (p : Val × Clm) : Bool := mayV p.1 && (decide (p.1.kind = p.2.kind) || decide (p.1.kind = 0))
theorem rowB_drop {row : List Val} {cols : List Clm} {j : Nat} (h : j < row.length) (h' : j < cols.length) : ((row.zip cols).drop j).all rowB = (rowB (row[j], cols[j]) && ((row.zip cols).drop (j + 1)).all rowB) := by
  have hz : j < (row.zip cols).length := by simp; omega
  rw [drop_cons hz, List.all_cons]
  congr 1
  simp
set_option maxRecDepth 100000 in
set_option maxHeartbeats 8000000 in
theorem exEval_any (u cu rv : Value) (t : TabT) (cols : List Clm) (row : List Val) (e : Ex) (S : Nat → Prop) (w : World) (hv : ExR w S u e) (ht : TabR w S cu t cols) (hrow : VaR w S rv row) (hsz : e.size ≤ 100000) (hei : ExI e) (hri : ∀ x ∈ row, i64B x.n = true) :
    Calls Try.prog 15 #[tabV cu t, rv, exV u e] w (ValEP (evalTF cols row e) w) := by
  have ht' := ht
  have hv' := hv
  obtain ⟨hcl, a1, n1, c1, a2, n2, c2, a3, n3, c3, q1, q2, q3⟩ := ht
  obtain ⟨Ac, cc, rfl, hcc, hcm⟩ := hcl.form
  obtain ⟨nm, key, place, region, v1, v2, v3, elect, commit, survive⟩ := t
  simp only at q1 q2 q3
  subst q1 q2 q3
  obtain ⟨A, c, rfl, hc, hm⟩ := hv.toL.form
  obtain ⟨Ar, cr, rfl, hrc, hrm⟩ := hrow.form
  unfold maxLen at hm hcm hrm
  obtain ⟨TC, hTC⟩ : ∃ TC, TC = tabCs (.slice Ac cols.length cc) ⟨nm, key, place, region, .slice a1 n1 c1, .slice a2 n2 c2, .slice a3 n3 c3, elect, commit, survive⟩ := ⟨_, rfl⟩
  have hS0 := (((Same.refl (fun _ => True) w).alloc (.cells TC.toArray 32)).alloc (.cells (exCs (.slice A e.args.length c) e).toArray 26)).alloc (.cells (valCs .zero).toArray 23)
  have hrt := ((Row.new w 32 TC).keep ((Same.refl (fun _ => True) _).alloc (.cells (exCs (.slice A e.args.length c) e).toArray 26)) trivial).keep ((Same.refl (fun _ => True) _).alloc (.cells (valCs .zero).toArray 23)) trivial
  have hre := (Row.new (w.alloc (.cells TC.toArray 32)) 26 (exCs (.slice A e.args.length c) e)).keep ((Same.refl (fun _ => True) _).alloc (.cells (valCs .zero).toArray 23)) trivial
  have hrr := Row.new ((w.alloc (.cells TC.toArray 32)).alloc (.cells (exCs (.slice A e.args.length c) e).toArray 26)) 23 (valCs .zero)
  rw [World.size_alloc] at hre
  rw [World.size_alloc, World.size_alloc, show w.heap.size + 1 + 1 = w.heap.size + 2 from rfl] at hrr
  obtain ⟨W0, hW0⟩ : ∃ W0, W0 = ((w.alloc (.cells TC.toArray 32)).alloc (.cells (exCs (.slice A e.args.length c) e).toArray 26)).alloc (.cells (valCs .zero).toArray 23) := ⟨_, rfl⟩
  have HW0 := Lib.hid hW0
  have HTC := Lib.hid hTC
  rw [← hW0] at hS0 hrt hre hrr
  rw [hTC] at hrt
  have HS := Lib.hid hS0
  have Hrt := Lib.hid hrt
  have Hre := Lib.hid hre
  have Hrr := Lib.hid hrr
  have hty := exType_any _ _ _ cols e S W0 (hv'.keepAll hS0) (ht'.keepAll hS0) hsz
  obtain ⟨F, hF⟩ : ∃ F, evalTF cols row e = F := ⟨_, rfl⟩
  have HK : Hid (F = if (typeF cols e).2 ≠ 0 then ((.zero, (typeF cols e).2) : Val × Int) else if mayRowB cols row then evalF cols row e else (.zero, 9)) := Lib.hid (by rw [← hF]; rfl)
  have HTF : Hid ((typeF cols e).2 = 0 → (typedF cols e).2 = 0) := Lib.hid (fun h => by unfold typeF at h; split at h; exact h; cases h)
  obtain ⟨T, hT⟩ : ∃ T, typeF cols e = T := ⟨_, rfl⟩
  rw [hF]
  rw [hT] at hty HK HTF
  have hev := fun (hrl : row.length = cols.length) (hok : (typedF cols e).2 = 0) (W : World) (hW : Same (fun _ => True) w W) => exeval_any _ cols row S hri hrl e hsz hei hok _ _ _ W (hv'.keepAll hW) (ht'.keepAll hW) (RowR.keepAll hrow hW)
  have Hev := Lib.hid hev
  have Hrow := Lib.hid hrow
  have Hcl := Lib.hid hcl
  have k0 : W0.cell? ⟨w.heap.size + 1, 0, none⟩ = some (.int .i64 e.kind) := hre.cell 0
  have k1 : W0.cell? ⟨w.heap.size + 1, 1, none⟩ = some (.string (str e.s)) := hre.cell 1
  have k2 : W0.cell? ⟨w.heap.size + 1, 2, none⟩ = some (.int .i64 e.v.kind) := hre.cell 2
  have k3 : W0.cell? ⟨w.heap.size + 1, 3, none⟩ = some (.int .i64 e.v.n) := hre.cell 3
  have k4 : W0.cell? ⟨w.heap.size + 1, 4, none⟩ = some (.string (str e.v.s)) := hre.cell 4
  have k5 : W0.cell? ⟨w.heap.size + 1, 5, none⟩ = some (.slice A e.args.length c) := hre.cell 5
  have t0 : W0.cell? ⟨w.heap.size, 0, none⟩ = some (.string (str nm)) := hrt.cell 0
  have t1 : W0.cell? ⟨w.heap.size, 1, none⟩ = some (.slice Ac cols.length cc) := hrt.cell 1
  have t2 : W0.cell? ⟨w.heap.size, 2, none⟩ = some (.int .i64 key) := hrt.cell 2
  have t3 : W0.cell? ⟨w.heap.size, 3, none⟩ = some (.int .i64 place) := hrt.cell 3
  have t4 : W0.cell? ⟨w.heap.size, 4, none⟩ = some (.int .i64 region) := hrt.cell 4
  have t5 : W0.cell? ⟨w.heap.size, 5, none⟩ = some (.slice a1 n1 c1) := hrt.cell 5
  have t6 : W0.cell? ⟨w.heap.size, 6, none⟩ = some (.slice a2 n2 c2) := hrt.cell 6
  have t7 : W0.cell? ⟨w.heap.size, 7, none⟩ = some (.slice a3 n3 c3) := hrt.cell 7
  have t8 : W0.cell? ⟨w.heap.size, 8, none⟩ = some (.int .i64 elect) := hrt.cell 8
  have t9 : W0.cell? ⟨w.heap.size, 9, none⟩ = some (.int .i64 commit) := hrt.cell 9
  have t10 : W0.cell? ⟨w.heap.size, 10, none⟩ = some (.int .i64 survive) := hrt.cell 10
  clear hTC hW0 hS0 hrt hre hrr hT hF hev hv ht' hv' hrow hcl hri hei
  go_enter Try.func15, Try.ntmps15
  go_wp2_with (go_at_call 13; refine stopAt ?_)
  unfold Hid
  have e0 := HW0.out
  have e1 := HTC.out
  simp only [tabCs] at e1
  simp only [exCs, e1, valCs, Val.zero, str_nil] at e0
  rw [← e0]
  clear e0 e1
  refine hty.mono ?_
  rintro e' w3 ⟨rfl, hS3⟩
  have HS3 := Lib.hid (HS.out.trans hS3)
  have hrt3 := Hrt.out.keep hS3 trivial
  have hre3 := Hre.out.keep hS3 trivial
  have hrr3 := Hrr.out.keep hS3 trivial
  have Hrt3 := Lib.hid hrt3
  have Hre3 := Lib.hid hre3
  have Hrr3 := Lib.hid hrr3
  have t1 : w3.cell? ⟨w.heap.size, 1, none⟩ = some (.slice Ac cols.length cc) := hrt3.cell 1
  have r0 : w3.cell? ⟨w.heap.size + 2, 0, none⟩ = some (.int .i64 0) := hrr3.cell 0
  have r1 : w3.cell? ⟨w.heap.size + 2, 1, none⟩ = some (.int .i64 0) := hrr3.cell 1
  have r2 : w3.cell? ⟨w.heap.size + 2, 2, none⟩ = some (.string (str [])) := hrr3.cell 2
  have f0 : w3.frozen? ⟨w.heap.size + 2, 0, none⟩ = false := hrr3.frozen 0
  have f1 : w3.frozen? ⟨w.heap.size + 2, 1, none⟩ = false := hrr3.frozen 1
  have f2 : w3.frozen? ⟨w.heap.size + 2, 2, none⟩ = false := hrr3.frozen 2
  have z1 := hrr3.lt
  clear hS3 hty hrt3 hre3 hrr3 k0 k1 k2 k3 k4 k5 t0 t2 t3 t4 t5 t6 t7 t8 t9 t10
  obtain ⟨tk, te⟩ := T
  by_cases h0 : te = 0
  · have K := HK.out.trans (if_neg (by simpa using h0))
    have Hok := Lib.hid (HTF.out (by simpa using h0))
    have HK := Lib.hid K
    have b4 : (te != 0) = false := by simpa using h0
    clear K h0
    by_cases hrl : row.length = cols.length
    · have b5 : ((row.length : Int) != (cols.length : Int)) = false := by simp; omega
      have b6 : (row.length != cols.length) = false := by simpa using hrl
      have Hrl := Lib.hid hrl
      have hle : row.length ≤ cols.length := by omega
      have hge : cols.length ≤ row.length := by omega
      have HK2 : Hid (F = if ((row.zip cols).drop 0).all rowB then evalF cols row e else (.zero, 9)) := Lib.hid (by
        rw [HK.out, List.drop_zero]
        unfold mayRowB
        rw [show decide (row.length = cols.length) = true from decide_eq_true hrl, Bool.true_and]
        rfl)
      clear hrl
      go_wp2
      clear t1 r0 r1 r2 f0 f1 f2
      go_loopw [10, 11, 31] (fun _ _ i wr => ∃ (j : Nat), j ≤ row.length ∧ i = .int .i64 j ∧ F = (if ((row.zip cols).drop j).all rowB then evalF cols row e else (.zero, 9)) ∧ Same (fun _ => True) w3 wr) (fun _ _ i _ => row.length - (intOf i).toNat)
      case atStart => exact ⟨0, Nat.zero_le _, rfl, HK2.out, Same.refl _ _⟩
      case round =>
        obtain ⟨j, hj, rfl, hrel, hS⟩ := hrel
        have Hrel := Lib.hid hrel
        have HSr := Lib.hid hS
        have hrt := Hrt3.out.keep hS trivial
        have hre := Hre3.out.keep hS trivial
        have hrr := Hrr3.out.keep hS trivial
        have Hrr := Lib.hid hrr
        clear hrel
        by_cases hlt : j < row.length
        · obtain ⟨ad, rfl, -, d0, d1, d2⟩ := VaR.cells (RowR.keepAll Hrow.out (HS3.out.trans hS)) hlt
          have hjc : j < cols.length := by omega
          obtain ⟨adc, rfl, -, e0, e1, e2⟩ := ClR.cells (RowR.keepAll Hcl.out (HS3.out.trans hS)) hjc
          have hd := rowB_drop hlt hjc
          have x1 : (0 : Int) ≤ (j : Int) := by omega
          have x2 : (j : Int) < (row.length : Int) := by omega
          have x3 : (j : Int) < (cols.length : Int) := by omega
          generalize row[j] = x at *
          generalize cols[j] = k at *
          have Hd := Lib.hid hd
          have hSx := (Same.refl (fun _ => True) wr).alloc (.cells (valCs x).toArray 23)
          have hrx := Row.new wr 23 (valCs x)
          have hrrx := hrr.keep hSx trivial
          have hrtx := hrt.keep hSx trivial
          have hab := World.block_lt_of_cell? wr _ d0
          have hac := World.block_lt_of_cell? wr _ e1
          have e1x := hSx.cell (p := ⟨(adc.add (j * 3)).block, (adc.add (j * 3)).off + 1, none⟩) trivial e1
          have gm := fun W => exMay_any x W
          obtain ⟨M, hM⟩ : ∃ M, mayV x = M := ⟨_, rfl⟩
          rw [hM] at gm
          have HM := Lib.hid hM
          have q1 : (x.kind != k.kind) = !(decide (x.kind = k.kind)) := rfl
          have q2 : (x.kind != 0) = !(decide (x.kind = 0)) := rfl
          obtain ⟨B1, hB1⟩ : ∃ B, decide (x.kind = k.kind) = B := ⟨_, rfl⟩
          obtain ⟨B2, hB2⟩ : ∃ B, decide (x.kind = 0) = B := ⟨_, rfl⟩
          rw [hB1] at q1
          rw [hB2] at q2
          have hE : rowB (x, k) = (M && (B1 || B2)) := by unfold rowB; rw [hM, hB1, hB2]
          have HE := Lib.hid hE
          clear hd hM hB1 hB2 hE hS hre e0 e2
          have z2 := hrr.lt
          obtain ⟨Wx, hWx⟩ : ∃ Wx, Wx = wr.alloc (.cells (valCs x).toArray 23) := ⟨_, rfl⟩
          have HWx := Lib.hid hWx
          rw [← hWx] at hSx hrx hrrx hrtx e1x
          have c0 : Wx.cell? ⟨wr.heap.size, 0, none⟩ = some (.int .i64 x.kind) := hrx.cell 0
          have c1 : Wx.cell? ⟨wr.heap.size, 1, none⟩ = some (.int .i64 x.n) := hrx.cell 1
          have c2 : Wx.cell? ⟨wr.heap.size, 2, none⟩ = some (.string (str x.s)) := hrx.cell 2
          have t1 : Wx.cell? ⟨w.heap.size, 1, none⟩ = some (.slice (some adc) cols.length cc) := hrtx.cell 1
          have Hrrx := Lib.hid hrrx
          have HSx := Lib.hid (HSr.out.trans hSx)
          have z3 := hrrx.lt
          clear hWx hSx hrx hrrx hrtx hrt hrr e1
          go_wp2
          have e9 := HWx.out
          simp only [valCs] at e9
          rw [← e9]
          clear e9
          cases M
          · try simp only [Bool.not_false, Bool.not_true] at q1 q2
            refine wp_region_eq_lit (vs := [(valV x), (.bool false), (.bool true), (.bool true), undef, undef, undef, undef, undef, undef, undef, undef, undef, undef, undef, undef, undef, undef, (.bool true)]) (by kernel_rfl) (by kernel_rfl) rfl rfl ?_ ?_
            · refine ⟨?_, ?_, ?_, ?_, ?_, ?_, ?_, ?_, ?_, ?_, ?_, ?_, ?_, ?_, ?_, ?_, ?_, ?_, ?_, trivial⟩
              · intro ac wc hs hd hz hf hw K hK
                have e0 : ac.eval (.tmp 11) = (.pointer (some ⟨wr.heap.size, 0, none⟩)) := hf 11 rfl
                have m0 : wc.cell? ⟨wr.heap.size, 0, none⟩ = some (.int .i64 x.kind) := hs.cell (p := ⟨wr.heap.size, 0, none⟩) trivial c0
                have m1 : wc.cell? ⟨wr.heap.size, 1, none⟩ = some (.int .i64 x.n) := hs.cell (p := ⟨wr.heap.size, 1, none⟩) trivial c1
                have m2 : wc.cell? ⟨wr.heap.size, 2, none⟩ = some (.string (str x.s)) := hs.cell (p := ⟨wr.heap.size, 2, none⟩) trivial c2
                clear hd hz hf hw
                simp only [Region.wanted, if_true, Oper.wp, execOp, resolve, List.map_toArray, List.map_cons, List.map_nil, Option.map_some, Option.map_none, e0]
                go_simp
                exact hK _ _ rfl (Same.refl _ _)
              · intro ac wc hs hd hz hf hw K hK
                have e0 : ac.eval (.tmp 36) = (valV x) := hw 0 rfl
                clear hd hz hf hw
                simp only [Region.wanted, if_true, Oper.wp, execOp, resolve, List.map_toArray, List.map_cons, List.map_nil, Option.map_some, Option.map_none, e0]
                go_simp
                refine (gm _).mono ?_
                rintro e wd ⟨rfl, hs2⟩
                exact hK _ _ rfl hs2
              · intro ac wc hs hd hz hf hw K hK
                have e0 : ac.eval (.tmp 37) = (.bool false) := hw 1 rfl
                clear hd hz hf hw
                simp only [Region.wanted, if_true, Oper.wp, execOp, resolve, List.map_toArray, List.map_cons, List.map_nil, Option.map_some, Option.map_none, e0]
                go_simp
                exact hK _ _ rfl (Same.refl _ _)
              · intro ac wc hs hd hz hf hw K hK
                have e0 : ac.eval (.tmp 38) = (.bool true) := hw 2 rfl
                clear hd hz hf hw
                simp only [Region.wanted, if_true, Oper.wp, execOp, resolve, List.map_toArray, List.map_cons, List.map_nil, Option.map_some, Option.map_none, e0]
                go_simp
                exact hK _ _ rfl (Same.refl _ _)
              · intro ac wc hs hd hz hf hw K hK
                have eg : ac.eval (.tmp 39) = .bool true := hw 3 rfl
                refine skip_wanted (j := 3) (d := 39) (b := true) rfl rfl hz (of_decide_eq_true rfl) eg ?_
                clear eg
                exact hK _ _ rfl (Same.refl _ _)
              · intro ac wc hs hd hz hf hw K hK
                have eg : ac.eval (.tmp 39) = .bool true := hw 3 rfl
                refine skip_wanted (j := 3) (d := 39) (b := true) rfl rfl hz (of_decide_eq_true rfl) eg ?_
                clear eg
                exact hK _ _ rfl (Same.refl _ _)
              · intro ac wc hs hd hz hf hw K hK
                have eg : ac.eval (.tmp 39) = .bool true := hw 3 rfl
                refine skip_wanted (j := 3) (d := 39) (b := true) rfl rfl hz (of_decide_eq_true rfl) eg ?_
                clear eg
                exact hK _ _ rfl (Same.refl _ _)
              · intro ac wc hs hd hz hf hw K hK
                have eg : ac.eval (.tmp 39) = .bool true := hw 3 rfl
                refine skip_wanted (j := 3) (d := 39) (b := true) rfl rfl hz (of_decide_eq_true rfl) eg ?_
                clear eg
                exact hK _ _ rfl (Same.refl _ _)
              · intro ac wc hs hd hz hf hw K hK
                have eg : ac.eval (.tmp 39) = .bool true := hw 3 rfl
                refine skip_wanted (j := 3) (d := 39) (b := true) rfl rfl hz (of_decide_eq_true rfl) eg ?_
                clear eg
                exact hK _ _ rfl (Same.refl _ _)
              · intro ac wc hs hd hz hf hw K hK
                have eg : ac.eval (.tmp 39) = .bool true := hw 3 rfl
                refine skip_wanted (j := 3) (d := 39) (b := true) rfl rfl hz (of_decide_eq_true rfl) eg ?_
                clear eg
                exact hK _ _ rfl (Same.refl _ _)
              · intro ac wc hs hd hz hf hw K hK
                have eg : ac.eval (.tmp 39) = .bool true := hw 3 rfl
                refine skip_wanted (j := 3) (d := 39) (b := true) rfl rfl hz (of_decide_eq_true rfl) eg ?_
                clear eg
                exact hK _ _ rfl (Same.refl _ _)
              · intro ac wc hs hd hz hf hw K hK
                have eg : ac.eval (.tmp 39) = .bool true := hw 3 rfl
                refine skip_wanted (j := 3) (d := 39) (b := true) rfl rfl hz (of_decide_eq_true rfl) eg ?_
                clear eg
                exact hK _ _ rfl (Same.refl _ _)
              · intro ac wc hs hd hz hf hw K hK
                have eg : ac.eval (.tmp 39) = .bool true := hw 3 rfl
                refine skip_wanted (j := 3) (d := 39) (b := true) rfl rfl hz (of_decide_eq_true rfl) eg ?_
                clear eg
                exact hK _ _ rfl (Same.refl _ _)
              · intro ac wc hs hd hz hf hw K hK
                have eg : ac.eval (.tmp 39) = .bool true := hw 3 rfl
                refine skip_wanted (j := 3) (d := 39) (b := true) rfl rfl hz (of_decide_eq_true rfl) eg ?_
                clear eg
                exact hK _ _ rfl (Same.refl _ _)
              · intro ac wc hs hd hz hf hw K hK
                have eg : ac.eval (.tmp 49) = undef := hw 13 rfl
                refine skip_undef (j := 13) (d := 49) rfl rfl hz (of_decide_eq_true rfl) eg ?_
                exact hK _ _ rfl (Same.refl _ _)
              · intro ac wc hs hd hz hf hw K hK
                have eg : ac.eval (.tmp 49) = undef := hw 13 rfl
                refine skip_undef (j := 13) (d := 49) rfl rfl hz (of_decide_eq_true rfl) eg ?_
                exact hK _ _ rfl (Same.refl _ _)
              · intro ac wc hs hd hz hf hw K hK
                have eg : ac.eval (.tmp 49) = undef := hw 13 rfl
                refine skip_undef (j := 13) (d := 49) rfl rfl hz (of_decide_eq_true rfl) eg ?_
                exact hK _ _ rfl (Same.refl _ _)
              · intro ac wc hs hd hz hf hw K hK
                have eg : ac.eval (.tmp 39) = .bool true := hw 3 rfl
                refine skip_wanted (j := 3) (d := 39) (b := true) rfl rfl hz (of_decide_eq_true rfl) eg ?_
                clear eg
                exact hK _ _ rfl (Same.refl _ _)
              · intro ac wc hs hd hz hf hw K hK
                have e0 : ac.eval (.tmp 39) = (.bool true) := hw 3 rfl
                have e1 : ac.eval (.tmp 53) = undef := hw 17 rfl
                clear hd hz hf hw
                simp only [Region.wanted, if_true, Oper.wp, execOp, resolve, List.map_toArray, List.map_cons, List.map_nil, Option.map_some, Option.map_none, e0, e1]
                go_simp
                exact hK _ _ rfl (Same.refl _ _)
            · intro wR hsR
              simp only [putAll, Act.put, List.setIfInBounds_toArray, List.set_cons_succ, List.set_cons_zero]
              have hrrR := Hrrx.out.keep hsR trivial
              have r0 : wR.cell? ⟨w.heap.size + 2, 0, none⟩ = some (.int .i64 0) := hrrR.cell 0
              have r1 : wR.cell? ⟨w.heap.size + 2, 1, none⟩ = some (.int .i64 0) := hrrR.cell 1
              have r2 : wR.cell? ⟨w.heap.size + 2, 2, none⟩ = some (.string (str [])) := hrrR.cell 2
              have f0 : wR.frozen? ⟨w.heap.size + 2, 0, none⟩ = false := hrrR.frozen 0
              have f1 : wR.frozen? ⟨w.heap.size + 2, 1, none⟩ = false := hrrR.frozen 1
              have f2 : wR.frozen? ⟨w.heap.size + 2, 2, none⟩ = false := hrrR.frozen 2
              have K : F = (.zero, 9) := Hrel.out.trans (by rw [Hd.out, HE.out]; rfl)
              have HKK := Lib.hid K
              have HrrR := Lib.hid hrrR
              have HsR := Lib.hid hsR
              have z5 := hrrR.lt
              clear K hrrR hsR
              go_wp2
              refine bodyPost_ret (Eval_results (n := 9) (HrrR.out.set3 .zero) rfl rfl) rfl (ValEP.mk' HKK.out ?_)
              exact (HS3.out.trans (HSx.out.trans HsR.out)).set3 (fun h => by omega) _ _ _
          · cases B1
            · cases B2
              · try simp only [Bool.not_false, Bool.not_true] at q1 q2
                refine wp_region_eq_lit (vs := [(valV x), (.bool true), (.bool false), (.bool false), (.pointer (some ⟨wr.heap.size, 0, none⟩)), (.int .i64 x.kind), (.pointer (some ⟨w.heap.size, 1, none⟩)), (.slice (some adc) cols.length cc), (.int .i64 j), (.pointer (some (adc.add (j * 3)))), (.pointer (some ⟨(adc.add (j * 3)).block, (adc.add (j * 3)).off + 1, none⟩)), (.int .i64 k.kind), (.bool true), (.bool true), (.pointer (some ⟨wr.heap.size, 0, none⟩)), (.int .i64 x.kind), (.bool true), (.bool true), (.bool true)]) (by kernel_rfl) (by kernel_rfl) rfl rfl ?_ ?_
                · refine ⟨?_, ?_, ?_, ?_, ?_, ?_, ?_, ?_, ?_, ?_, ?_, ?_, ?_, ?_, ?_, ?_, ?_, ?_, ?_, trivial⟩
                  · intro ac wc hs hd hz hf hw K hK
                    have e0 : ac.eval (.tmp 11) = (.pointer (some ⟨wr.heap.size, 0, none⟩)) := hf 11 rfl
                    have m0 : wc.cell? ⟨wr.heap.size, 0, none⟩ = some (.int .i64 x.kind) := hs.cell (p := ⟨wr.heap.size, 0, none⟩) trivial c0
                    have m1 : wc.cell? ⟨wr.heap.size, 1, none⟩ = some (.int .i64 x.n) := hs.cell (p := ⟨wr.heap.size, 1, none⟩) trivial c1
                    have m2 : wc.cell? ⟨wr.heap.size, 2, none⟩ = some (.string (str x.s)) := hs.cell (p := ⟨wr.heap.size, 2, none⟩) trivial c2
                    clear hd hz hf hw
                    simp only [Region.wanted, if_true, Oper.wp, execOp, resolve, List.map_toArray, List.map_cons, List.map_nil, Option.map_some, Option.map_none, e0]
                    go_simp
                    exact hK _ _ rfl (Same.refl _ _)
                  · intro ac wc hs hd hz hf hw K hK
                    have e0 : ac.eval (.tmp 36) = (valV x) := hw 0 rfl
                    clear hd hz hf hw
                    simp only [Region.wanted, if_true, Oper.wp, execOp, resolve, List.map_toArray, List.map_cons, List.map_nil, Option.map_some, Option.map_none, e0]
                    go_simp
                    refine (gm _).mono ?_
                    rintro e wd ⟨rfl, hs2⟩
                    exact hK _ _ rfl hs2
                  · intro ac wc hs hd hz hf hw K hK
                    have e0 : ac.eval (.tmp 37) = (.bool true) := hw 1 rfl
                    clear hd hz hf hw
                    simp only [Region.wanted, if_true, Oper.wp, execOp, resolve, List.map_toArray, List.map_cons, List.map_nil, Option.map_some, Option.map_none, e0]
                    go_simp
                    exact hK _ _ rfl (Same.refl _ _)
                  · intro ac wc hs hd hz hf hw K hK
                    have e0 : ac.eval (.tmp 38) = (.bool false) := hw 2 rfl
                    clear hd hz hf hw
                    simp only [Region.wanted, if_true, Oper.wp, execOp, resolve, List.map_toArray, List.map_cons, List.map_nil, Option.map_some, Option.map_none, e0]
                    go_simp
                    exact hK _ _ rfl (Same.refl _ _)
                  · intro ac wc hs hd hz hf hw K hK
                    have eg : ac.eval (.tmp 39) = .bool false := hw 3 rfl
                    refine run_wanted (j := 3) (d := 39) (b := false) rfl rfl hz (of_decide_eq_true rfl) eg ?_
                    clear eg
                    have e0 : ac.eval (.tmp 11) = (.pointer (some ⟨wr.heap.size, 0, none⟩)) := hf 11 rfl
                    clear hd hz hf hw
                    simp only [Oper.wp, execOp, resolve, List.map_toArray, List.map_cons, List.map_nil, Option.map_some, Option.map_none, e0]
                    go_simp
                    exact hK _ _ rfl (Same.refl _ _)
                  · intro ac wc hs hd hz hf hw K hK
                    have eg : ac.eval (.tmp 39) = .bool false := hw 3 rfl
                    refine run_wanted (j := 3) (d := 39) (b := false) rfl rfl hz (of_decide_eq_true rfl) eg ?_
                    clear eg
                    have e0 : ac.eval (.tmp 40) = (.pointer (some ⟨wr.heap.size, 0, none⟩)) := hw 4 rfl
                    have m0 : wc.cell? ⟨wr.heap.size, 0, none⟩ = some (.int .i64 x.kind) := hs.cell (p := ⟨wr.heap.size, 0, none⟩) trivial c0
                    clear hd hz hf hw
                    simp only [Oper.wp, execOp, resolve, List.map_toArray, List.map_cons, List.map_nil, Option.map_some, Option.map_none, e0]
                    go_simp
                    exact hK _ _ rfl (Same.refl _ _)
                  · intro ac wc hs hd hz hf hw K hK
                    have eg : ac.eval (.tmp 39) = .bool false := hw 3 rfl
                    refine run_wanted (j := 3) (d := 39) (b := false) rfl rfl hz (of_decide_eq_true rfl) eg ?_
                    clear eg
                    have e0 : ac.eval (.tmp 3) = (.pointer (some ⟨w.heap.size, 0, none⟩)) := hf 3 rfl
                    clear hd hz hf hw
                    simp only [Oper.wp, execOp, resolve, List.map_toArray, List.map_cons, List.map_nil, Option.map_some, Option.map_none, e0]
                    go_simp
                    exact hK _ _ rfl (Same.refl _ _)
                  · intro ac wc hs hd hz hf hw K hK
                    have eg : ac.eval (.tmp 39) = .bool false := hw 3 rfl
                    refine run_wanted (j := 3) (d := 39) (b := false) rfl rfl hz (of_decide_eq_true rfl) eg ?_
                    clear eg
                    have e0 : ac.eval (.tmp 42) = (.pointer (some ⟨w.heap.size, 1, none⟩)) := hw 6 rfl
                    have m0 : wc.cell? ⟨w.heap.size, 1, none⟩ = some (.slice (some adc) cols.length cc) := hs.cell (p := ⟨w.heap.size, 1, none⟩) trivial t1
                    clear hd hz hf hw
                    simp only [Oper.wp, execOp, resolve, List.map_toArray, List.map_cons, List.map_nil, Option.map_some, Option.map_none, e0]
                    go_simp
                    exact hK _ _ rfl (Same.refl _ _)
                  · intro ac wc hs hd hz hf hw K hK
                    have eg : ac.eval (.tmp 39) = .bool false := hw 3 rfl
                    refine run_wanted (j := 3) (d := 39) (b := false) rfl rfl hz (of_decide_eq_true rfl) eg ?_
                    clear eg
                    have e0 : ac.eval (.tmp 10) = (.int .i64 j) := hf 10 rfl
                    clear hd hz hf hw
                    simp only [Oper.wp, execOp, resolve, List.map_toArray, List.map_cons, List.map_nil, Option.map_some, Option.map_none, e0]
                    go_simp
                    exact hK _ _ rfl (Same.refl _ _)
                  · intro ac wc hs hd hz hf hw K hK
                    have eg : ac.eval (.tmp 39) = .bool false := hw 3 rfl
                    refine run_wanted (j := 3) (d := 39) (b := false) rfl rfl hz (of_decide_eq_true rfl) eg ?_
                    clear eg
                    have e0 : ac.eval (.tmp 43) = (.slice (some adc) cols.length cc) := hw 7 rfl
                    have e1 : ac.eval (.tmp 44) = (.int .i64 j) := hw 8 rfl
                    clear hd hz hf hw
                    simp only [Oper.wp, execOp, resolve, List.map_toArray, List.map_cons, List.map_nil, Option.map_some, Option.map_none, e0, e1]
                    go_simp
                    exact hK _ _ rfl (Same.refl _ _)
                  · intro ac wc hs hd hz hf hw K hK
                    have eg : ac.eval (.tmp 39) = .bool false := hw 3 rfl
                    refine run_wanted (j := 3) (d := 39) (b := false) rfl rfl hz (of_decide_eq_true rfl) eg ?_
                    clear eg
                    have e0 : ac.eval (.tmp 45) = (.pointer (some (adc.add (j * 3)))) := hw 9 rfl
                    clear hd hz hf hw
                    simp only [Oper.wp, execOp, resolve, List.map_toArray, List.map_cons, List.map_nil, Option.map_some, Option.map_none, e0]
                    go_simp
                    exact hK _ _ rfl (Same.refl _ _)
                  · intro ac wc hs hd hz hf hw K hK
                    have eg : ac.eval (.tmp 39) = .bool false := hw 3 rfl
                    refine run_wanted (j := 3) (d := 39) (b := false) rfl rfl hz (of_decide_eq_true rfl) eg ?_
                    clear eg
                    have e0 : ac.eval (.tmp 46) = (.pointer (some ⟨(adc.add (j * 3)).block, (adc.add (j * 3)).off + 1, none⟩)) := hw 10 rfl
                    have m0 : wc.cell? ⟨(adc.add (j * 3)).block, (adc.add (j * 3)).off + 1, none⟩ = some (.int .i64 k.kind) := hs.cell (p := ⟨(adc.add (j * 3)).block, (adc.add (j * 3)).off + 1, none⟩) trivial e1x
                    clear hd hz hf hw
                    simp only [Oper.wp, execOp, resolve, List.map_toArray, List.map_cons, List.map_nil, Option.map_some, Option.map_none, e0]
                    go_simp
                    exact hK _ _ rfl (Same.refl _ _)
                  · intro ac wc hs hd hz hf hw K hK
                    have eg : ac.eval (.tmp 39) = .bool false := hw 3 rfl
                    refine run_wanted (j := 3) (d := 39) (b := false) rfl rfl hz (of_decide_eq_true rfl) eg ?_
                    clear eg
                    have e0 : ac.eval (.tmp 41) = (.int .i64 x.kind) := hw 5 rfl
                    have e1 : ac.eval (.tmp 47) = (.int .i64 k.kind) := hw 11 rfl
                    clear hd hz hf hw
                    simp only [Oper.wp, execOp, resolve, List.map_toArray, List.map_cons, List.map_nil, Option.map_some, Option.map_none, e0, e1]
                    go_simp
                    exact hK _ _ rfl (Same.refl _ _)
                  · intro ac wc hs hd hz hf hw K hK
                    have eg : ac.eval (.tmp 39) = .bool false := hw 3 rfl
                    refine run_wanted (j := 3) (d := 39) (b := false) rfl rfl hz (of_decide_eq_true rfl) eg ?_
                    clear eg
                    have e0 : ac.eval (.tmp 48) = (.bool true) := hw 12 rfl
                    clear hd hz hf hw
                    simp only [Oper.wp, execOp, resolve, List.map_toArray, List.map_cons, List.map_nil, Option.map_some, Option.map_none, e0]
                    go_simp
                    exact hK _ _ rfl (Same.refl _ _)
                  · intro ac wc hs hd hz hf hw K hK
                    have eg : ac.eval (.tmp 49) = .bool true := hw 13 rfl
                    refine run_wanted (j := 13) (d := 49) (b := true) rfl rfl hz (of_decide_eq_true rfl) eg ?_
                    clear eg
                    have e0 : ac.eval (.tmp 11) = (.pointer (some ⟨wr.heap.size, 0, none⟩)) := hf 11 rfl
                    clear hd hz hf hw
                    simp only [Oper.wp, execOp, resolve, List.map_toArray, List.map_cons, List.map_nil, Option.map_some, Option.map_none, e0]
                    go_simp
                    exact hK _ _ rfl (Same.refl _ _)
                  · intro ac wc hs hd hz hf hw K hK
                    have eg : ac.eval (.tmp 49) = .bool true := hw 13 rfl
                    refine run_wanted (j := 13) (d := 49) (b := true) rfl rfl hz (of_decide_eq_true rfl) eg ?_
                    clear eg
                    have e0 : ac.eval (.tmp 50) = (.pointer (some ⟨wr.heap.size, 0, none⟩)) := hw 14 rfl
                    have m0 : wc.cell? ⟨wr.heap.size, 0, none⟩ = some (.int .i64 x.kind) := hs.cell (p := ⟨wr.heap.size, 0, none⟩) trivial c0
                    clear hd hz hf hw
                    simp only [Oper.wp, execOp, resolve, List.map_toArray, List.map_cons, List.map_nil, Option.map_some, Option.map_none, e0]
                    go_simp
                    exact hK _ _ rfl (Same.refl _ _)
                  · intro ac wc hs hd hz hf hw K hK
                    have eg : ac.eval (.tmp 49) = .bool true := hw 13 rfl
                    refine run_wanted (j := 13) (d := 49) (b := true) rfl rfl hz (of_decide_eq_true rfl) eg ?_
                    clear eg
                    have e0 : ac.eval (.tmp 51) = (.int .i64 x.kind) := hw 15 rfl
                    clear hd hz hf hw
                    simp only [Oper.wp, execOp, resolve, List.map_toArray, List.map_cons, List.map_nil, Option.map_some, Option.map_none, e0]
                    go_simp
                    exact hK _ _ rfl (Same.refl _ _)
                  · intro ac wc hs hd hz hf hw K hK
                    have eg : ac.eval (.tmp 39) = .bool false := hw 3 rfl
                    refine run_wanted (j := 3) (d := 39) (b := false) rfl rfl hz (of_decide_eq_true rfl) eg ?_
                    clear eg
                    have e0 : ac.eval (.tmp 49) = (.bool true) := hw 13 rfl
                    have e1 : ac.eval (.tmp 52) = (.bool true) := hw 16 rfl
                    clear hd hz hf hw
                    simp only [Oper.wp, execOp, resolve, List.map_toArray, List.map_cons, List.map_nil, Option.map_some, Option.map_none, e0, e1]
                    go_simp
                    exact hK _ _ rfl (Same.refl _ _)
                  · intro ac wc hs hd hz hf hw K hK
                    have e0 : ac.eval (.tmp 39) = (.bool false) := hw 3 rfl
                    have e1 : ac.eval (.tmp 53) = (.bool true) := hw 17 rfl
                    clear hd hz hf hw
                    simp only [Region.wanted, if_true, Oper.wp, execOp, resolve, List.map_toArray, List.map_cons, List.map_nil, Option.map_some, Option.map_none, e0, e1]
                    go_simp
                    exact hK _ _ rfl (Same.refl _ _)
                · intro wR hsR
                  simp only [putAll, Act.put, List.setIfInBounds_toArray, List.set_cons_succ, List.set_cons_zero]
                  have hrrR := Hrrx.out.keep hsR trivial
                  have r0 : wR.cell? ⟨w.heap.size + 2, 0, none⟩ = some (.int .i64 0) := hrrR.cell 0
                  have r1 : wR.cell? ⟨w.heap.size + 2, 1, none⟩ = some (.int .i64 0) := hrrR.cell 1
                  have r2 : wR.cell? ⟨w.heap.size + 2, 2, none⟩ = some (.string (str [])) := hrrR.cell 2
                  have f0 : wR.frozen? ⟨w.heap.size + 2, 0, none⟩ = false := hrrR.frozen 0
                  have f1 : wR.frozen? ⟨w.heap.size + 2, 1, none⟩ = false := hrrR.frozen 1
                  have f2 : wR.frozen? ⟨w.heap.size + 2, 2, none⟩ = false := hrrR.frozen 2
                  have K : F = (.zero, 9) := Hrel.out.trans (by rw [Hd.out, HE.out]; rfl)
                  have HKK := Lib.hid K
                  have HrrR := Lib.hid hrrR
                  have HsR := Lib.hid hsR
                  have z5 := hrrR.lt
                  clear K hrrR hsR
                  go_wp2
                  refine bodyPost_ret (Eval_results (n := 9) (HrrR.out.set3 .zero) rfl rfl) rfl (ValEP.mk' HKK.out ?_)
                  exact (HS3.out.trans (HSx.out.trans HsR.out)).set3 (fun h => by omega) _ _ _
              · try simp only [Bool.not_false, Bool.not_true] at q1 q2
                refine wp_region_eq_lit (vs := [(valV x), (.bool true), (.bool false), (.bool false), (.pointer (some ⟨wr.heap.size, 0, none⟩)), (.int .i64 x.kind), (.pointer (some ⟨w.heap.size, 1, none⟩)), (.slice (some adc) cols.length cc), (.int .i64 j), (.pointer (some (adc.add (j * 3)))), (.pointer (some ⟨(adc.add (j * 3)).block, (adc.add (j * 3)).off + 1, none⟩)), (.int .i64 k.kind), (.bool true), (.bool true), (.pointer (some ⟨wr.heap.size, 0, none⟩)), (.int .i64 x.kind), (.bool false), (.bool false), (.bool false)]) (by kernel_rfl) (by kernel_rfl) rfl rfl ?_ ?_
                · refine ⟨?_, ?_, ?_, ?_, ?_, ?_, ?_, ?_, ?_, ?_, ?_, ?_, ?_, ?_, ?_, ?_, ?_, ?_, ?_, trivial⟩
                  · intro ac wc hs hd hz hf hw K hK
                    have e0 : ac.eval (.tmp 11) = (.pointer (some ⟨wr.heap.size, 0, none⟩)) := hf 11 rfl
                    have m0 : wc.cell? ⟨wr.heap.size, 0, none⟩ = some (.int .i64 x.kind) := hs.cell (p := ⟨wr.heap.size, 0, none⟩) trivial c0
                    have m1 : wc.cell? ⟨wr.heap.size, 1, none⟩ = some (.int .i64 x.n) := hs.cell (p := ⟨wr.heap.size, 1, none⟩) trivial c1
                    have m2 : wc.cell? ⟨wr.heap.size, 2, none⟩ = some (.string (str x.s)) := hs.cell (p := ⟨wr.heap.size, 2, none⟩) trivial c2
                    clear hd hz hf hw
                    simp only [Region.wanted, if_true, Oper.wp, execOp, resolve, List.map_toArray, List.map_cons, List.map_nil, Option.map_some, Option.map_none, e0]
                    go_simp
                    exact hK _ _ rfl (Same.refl _ _)
                  · intro ac wc hs hd hz hf hw K hK
                    have e0 : ac.eval (.tmp 36) = (valV x) := hw 0 rfl
                    clear hd hz hf hw
                    simp only [Region.wanted, if_true, Oper.wp, execOp, resolve, List.map_toArray, List.map_cons, List.map_nil, Option.map_some, Option.map_none, e0]
                    go_simp
                    refine (gm _).mono ?_
                    rintro e wd ⟨rfl, hs2⟩
                    exact hK _ _ rfl hs2
                  · intro ac wc hs hd hz hf hw K hK
                    have e0 : ac.eval (.tmp 37) = (.bool true) := hw 1 rfl
                    clear hd hz hf hw
                    simp only [Region.wanted, if_true, Oper.wp, execOp, resolve, List.map_toArray, List.map_cons, List.map_nil, Option.map_some, Option.map_none, e0]
                    go_simp
                    exact hK _ _ rfl (Same.refl _ _)
                  · intro ac wc hs hd hz hf hw K hK
                    have e0 : ac.eval (.tmp 38) = (.bool false) := hw 2 rfl
                    clear hd hz hf hw
                    simp only [Region.wanted, if_true, Oper.wp, execOp, resolve, List.map_toArray, List.map_cons, List.map_nil, Option.map_some, Option.map_none, e0]
                    go_simp
                    exact hK _ _ rfl (Same.refl _ _)
                  · intro ac wc hs hd hz hf hw K hK
                    have eg : ac.eval (.tmp 39) = .bool false := hw 3 rfl
                    refine run_wanted (j := 3) (d := 39) (b := false) rfl rfl hz (of_decide_eq_true rfl) eg ?_
                    clear eg
                    have e0 : ac.eval (.tmp 11) = (.pointer (some ⟨wr.heap.size, 0, none⟩)) := hf 11 rfl
                    clear hd hz hf hw
                    simp only [Oper.wp, execOp, resolve, List.map_toArray, List.map_cons, List.map_nil, Option.map_some, Option.map_none, e0]
                    go_simp
                    exact hK _ _ rfl (Same.refl _ _)
                  · intro ac wc hs hd hz hf hw K hK
                    have eg : ac.eval (.tmp 39) = .bool false := hw 3 rfl
                    refine run_wanted (j := 3) (d := 39) (b := false) rfl rfl hz (of_decide_eq_true rfl) eg ?_
                    clear eg
                    have e0 : ac.eval (.tmp 40) = (.pointer (some ⟨wr.heap.size, 0, none⟩)) := hw 4 rfl
                    have m0 : wc.cell? ⟨wr.heap.size, 0, none⟩ = some (.int .i64 x.kind) := hs.cell (p := ⟨wr.heap.size, 0, none⟩) trivial c0
                    clear hd hz hf hw
                    simp only [Oper.wp, execOp, resolve, List.map_toArray, List.map_cons, List.map_nil, Option.map_some, Option.map_none, e0]
                    go_simp
                    exact hK _ _ rfl (Same.refl _ _)
                  · intro ac wc hs hd hz hf hw K hK
                    have eg : ac.eval (.tmp 39) = .bool false := hw 3 rfl
                    refine run_wanted (j := 3) (d := 39) (b := false) rfl rfl hz (of_decide_eq_true rfl) eg ?_
                    clear eg
                    have e0 : ac.eval (.tmp 3) = (.pointer (some ⟨w.heap.size, 0, none⟩)) := hf 3 rfl
                    clear hd hz hf hw
                    simp only [Oper.wp, execOp, resolve, List.map_toArray, List.map_cons, List.map_nil, Option.map_some, Option.map_none, e0]
                    go_simp
                    exact hK _ _ rfl (Same.refl _ _)
                  · intro ac wc hs hd hz hf hw K hK
                    have eg : ac.eval (.tmp 39) = .bool false := hw 3 rfl
                    refine run_wanted (j := 3) (d := 39) (b := false) rfl rfl hz (of_decide_eq_true rfl) eg ?_
                    clear eg
                    have e0 : ac.eval (.tmp 42) = (.pointer (some ⟨w.heap.size, 1, none⟩)) := hw 6 rfl
                    have m0 : wc.cell? ⟨w.heap.size, 1, none⟩ = some (.slice (some adc) cols.length cc) := hs.cell (p := ⟨w.heap.size, 1, none⟩) trivial t1
                    clear hd hz hf hw
                    simp only [Oper.wp, execOp, resolve, List.map_toArray, List.map_cons, List.map_nil, Option.map_some, Option.map_none, e0]
                    go_simp
                    exact hK _ _ rfl (Same.refl _ _)
                  · intro ac wc hs hd hz hf hw K hK
                    have eg : ac.eval (.tmp 39) = .bool false := hw 3 rfl
                    refine run_wanted (j := 3) (d := 39) (b := false) rfl rfl hz (of_decide_eq_true rfl) eg ?_
                    clear eg
                    have e0 : ac.eval (.tmp 10) = (.int .i64 j) := hf 10 rfl
                    clear hd hz hf hw
                    simp only [Oper.wp, execOp, resolve, List.map_toArray, List.map_cons, List.map_nil, Option.map_some, Option.map_none, e0]
                    go_simp
                    exact hK _ _ rfl (Same.refl _ _)
                  · intro ac wc hs hd hz hf hw K hK
                    have eg : ac.eval (.tmp 39) = .bool false := hw 3 rfl
                    refine run_wanted (j := 3) (d := 39) (b := false) rfl rfl hz (of_decide_eq_true rfl) eg ?_
                    clear eg
                    have e0 : ac.eval (.tmp 43) = (.slice (some adc) cols.length cc) := hw 7 rfl
                    have e1 : ac.eval (.tmp 44) = (.int .i64 j) := hw 8 rfl
                    clear hd hz hf hw
                    simp only [Oper.wp, execOp, resolve, List.map_toArray, List.map_cons, List.map_nil, Option.map_some, Option.map_none, e0, e1]
                    go_simp
                    exact hK _ _ rfl (Same.refl _ _)
                  · intro ac wc hs hd hz hf hw K hK
                    have eg : ac.eval (.tmp 39) = .bool false := hw 3 rfl
                    refine run_wanted (j := 3) (d := 39) (b := false) rfl rfl hz (of_decide_eq_true rfl) eg ?_
                    clear eg
                    have e0 : ac.eval (.tmp 45) = (.pointer (some (adc.add (j * 3)))) := hw 9 rfl
                    clear hd hz hf hw
                    simp only [Oper.wp, execOp, resolve, List.map_toArray, List.map_cons, List.map_nil, Option.map_some, Option.map_none, e0]
                    go_simp
                    exact hK _ _ rfl (Same.refl _ _)
                  · intro ac wc hs hd hz hf hw K hK
                    have eg : ac.eval (.tmp 39) = .bool false := hw 3 rfl
                    refine run_wanted (j := 3) (d := 39) (b := false) rfl rfl hz (of_decide_eq_true rfl) eg ?_
                    clear eg
                    have e0 : ac.eval (.tmp 46) = (.pointer (some ⟨(adc.add (j * 3)).block, (adc.add (j * 3)).off + 1, none⟩)) := hw 10 rfl
                    have m0 : wc.cell? ⟨(adc.add (j * 3)).block, (adc.add (j * 3)).off + 1, none⟩ = some (.int .i64 k.kind) := hs.cell (p := ⟨(adc.add (j * 3)).block, (adc.add (j * 3)).off + 1, none⟩) trivial e1x
                    clear hd hz hf hw
                    simp only [Oper.wp, execOp, resolve, List.map_toArray, List.map_cons, List.map_nil, Option.map_some, Option.map_none, e0]
                    go_simp
                    exact hK _ _ rfl (Same.refl _ _)
                  · intro ac wc hs hd hz hf hw K hK
                    have eg : ac.eval (.tmp 39) = .bool false := hw 3 rfl
                    refine run_wanted (j := 3) (d := 39) (b := false) rfl rfl hz (of_decide_eq_true rfl) eg ?_
                    clear eg
                    have e0 : ac.eval (.tmp 41) = (.int .i64 x.kind) := hw 5 rfl
                    have e1 : ac.eval (.tmp 47) = (.int .i64 k.kind) := hw 11 rfl
                    clear hd hz hf hw
                    simp only [Oper.wp, execOp, resolve, List.map_toArray, List.map_cons, List.map_nil, Option.map_some, Option.map_none, e0, e1]
                    go_simp
                    exact hK _ _ rfl (Same.refl _ _)
                  · intro ac wc hs hd hz hf hw K hK
                    have eg : ac.eval (.tmp 39) = .bool false := hw 3 rfl
                    refine run_wanted (j := 3) (d := 39) (b := false) rfl rfl hz (of_decide_eq_true rfl) eg ?_
                    clear eg
                    have e0 : ac.eval (.tmp 48) = (.bool true) := hw 12 rfl
                    clear hd hz hf hw
                    simp only [Oper.wp, execOp, resolve, List.map_toArray, List.map_cons, List.map_nil, Option.map_some, Option.map_none, e0]
                    go_simp
                    exact hK _ _ rfl (Same.refl _ _)
                  · intro ac wc hs hd hz hf hw K hK
                    have eg : ac.eval (.tmp 49) = .bool true := hw 13 rfl
                    refine run_wanted (j := 13) (d := 49) (b := true) rfl rfl hz (of_decide_eq_true rfl) eg ?_
                    clear eg
                    have e0 : ac.eval (.tmp 11) = (.pointer (some ⟨wr.heap.size, 0, none⟩)) := hf 11 rfl
                    clear hd hz hf hw
                    simp only [Oper.wp, execOp, resolve, List.map_toArray, List.map_cons, List.map_nil, Option.map_some, Option.map_none, e0]
                    go_simp
                    exact hK _ _ rfl (Same.refl _ _)
                  · intro ac wc hs hd hz hf hw K hK
                    have eg : ac.eval (.tmp 49) = .bool true := hw 13 rfl
                    refine run_wanted (j := 13) (d := 49) (b := true) rfl rfl hz (of_decide_eq_true rfl) eg ?_
                    clear eg
                    have e0 : ac.eval (.tmp 50) = (.pointer (some ⟨wr.heap.size, 0, none⟩)) := hw 14 rfl
                    have m0 : wc.cell? ⟨wr.heap.size, 0, none⟩ = some (.int .i64 x.kind) := hs.cell (p := ⟨wr.heap.size, 0, none⟩) trivial c0
                    clear hd hz hf hw
                    simp only [Oper.wp, execOp, resolve, List.map_toArray, List.map_cons, List.map_nil, Option.map_some, Option.map_none, e0]
                    go_simp
                    exact hK _ _ rfl (Same.refl _ _)
                  · intro ac wc hs hd hz hf hw K hK
                    have eg : ac.eval (.tmp 49) = .bool true := hw 13 rfl
                    refine run_wanted (j := 13) (d := 49) (b := true) rfl rfl hz (of_decide_eq_true rfl) eg ?_
                    clear eg
                    have e0 : ac.eval (.tmp 51) = (.int .i64 x.kind) := hw 15 rfl
                    clear hd hz hf hw
                    simp only [Oper.wp, execOp, resolve, List.map_toArray, List.map_cons, List.map_nil, Option.map_some, Option.map_none, e0]
                    go_simp
                    exact hK _ _ rfl (Same.refl _ _)
                  · intro ac wc hs hd hz hf hw K hK
                    have eg : ac.eval (.tmp 39) = .bool false := hw 3 rfl
                    refine run_wanted (j := 3) (d := 39) (b := false) rfl rfl hz (of_decide_eq_true rfl) eg ?_
                    clear eg
                    have e0 : ac.eval (.tmp 49) = (.bool true) := hw 13 rfl
                    have e1 : ac.eval (.tmp 52) = (.bool false) := hw 16 rfl
                    clear hd hz hf hw
                    simp only [Oper.wp, execOp, resolve, List.map_toArray, List.map_cons, List.map_nil, Option.map_some, Option.map_none, e0, e1]
                    go_simp
                    exact hK _ _ rfl (Same.refl _ _)
                  · intro ac wc hs hd hz hf hw K hK
                    have e0 : ac.eval (.tmp 39) = (.bool false) := hw 3 rfl
                    have e1 : ac.eval (.tmp 53) = (.bool false) := hw 17 rfl
                    clear hd hz hf hw
                    simp only [Region.wanted, if_true, Oper.wp, execOp, resolve, List.map_toArray, List.map_cons, List.map_nil, Option.map_some, Option.map_none, e0, e1]
                    go_simp
                    exact hK _ _ rfl (Same.refl _ _)
                · intro wR hsR
                  simp only [putAll, Act.put, List.setIfInBounds_toArray, List.set_cons_succ, List.set_cons_zero]
                  have K := Hrel.out.trans (by rw [Hd.out, HE.out])
                  have HKK : Hid (F = if ((row.zip cols).drop (j + 1)).all rowB then evalF cols row e else (.zero, 9)) := Lib.hid K
                  have HsR := Lib.hid hsR
                  clear K hsR
                  go_wp2
                  go_roundw
                  case rel => exact ⟨j + 1, by omega, by go_num, HKK.out, HSx.out.trans HsR.out⟩
                  case measure => simp [intOf]; omega
            · try simp only [Bool.not_false, Bool.not_true] at q1 q2
              refine wp_region_eq_lit (vs := [(valV x), (.bool true), (.bool false), (.bool false), (.pointer (some ⟨wr.heap.size, 0, none⟩)), (.int .i64 x.kind), (.pointer (some ⟨w.heap.size, 1, none⟩)), (.slice (some adc) cols.length cc), (.int .i64 j), (.pointer (some (adc.add (j * 3)))), (.pointer (some ⟨(adc.add (j * 3)).block, (adc.add (j * 3)).off + 1, none⟩)), (.int .i64 k.kind), (.bool false), (.bool false), undef, undef, undef, (.bool false), (.bool false)]) (by kernel_rfl) (by kernel_rfl) rfl rfl ?_ ?_
              · refine ⟨?_, ?_, ?_, ?_, ?_, ?_, ?_, ?_, ?_, ?_, ?_, ?_, ?_, ?_, ?_, ?_, ?_, ?_, ?_, trivial⟩
                · intro ac wc hs hd hz hf hw K hK
                  have e0 : ac.eval (.tmp 11) = (.pointer (some ⟨wr.heap.size, 0, none⟩)) := hf 11 rfl
                  have m0 : wc.cell? ⟨wr.heap.size, 0, none⟩ = some (.int .i64 x.kind) := hs.cell (p := ⟨wr.heap.size, 0, none⟩) trivial c0
                  have m1 : wc.cell? ⟨wr.heap.size, 1, none⟩ = some (.int .i64 x.n) := hs.cell (p := ⟨wr.heap.size, 1, none⟩) trivial c1
                  have m2 : wc.cell? ⟨wr.heap.size, 2, none⟩ = some (.string (str x.s)) := hs.cell (p := ⟨wr.heap.size, 2, none⟩) trivial c2
                  clear hd hz hf hw
                  simp only [Region.wanted, if_true, Oper.wp, execOp, resolve, List.map_toArray, List.map_cons, List.map_nil, Option.map_some, Option.map_none, e0]
                  go_simp
                  exact hK _ _ rfl (Same.refl _ _)
                · intro ac wc hs hd hz hf hw K hK
                  have e0 : ac.eval (.tmp 36) = (valV x) := hw 0 rfl
                  clear hd hz hf hw
                  simp only [Region.wanted, if_true, Oper.wp, execOp, resolve, List.map_toArray, List.map_cons, List.map_nil, Option.map_some, Option.map_none, e0]
                  go_simp
                  refine (gm _).mono ?_
                  rintro e wd ⟨rfl, hs2⟩
                  exact hK _ _ rfl hs2
                · intro ac wc hs hd hz hf hw K hK
                  have e0 : ac.eval (.tmp 37) = (.bool true) := hw 1 rfl
                  clear hd hz hf hw
                  simp only [Region.wanted, if_true, Oper.wp, execOp, resolve, List.map_toArray, List.map_cons, List.map_nil, Option.map_some, Option.map_none, e0]
                  go_simp
                  exact hK _ _ rfl (Same.refl _ _)
                · intro ac wc hs hd hz hf hw K hK
                  have e0 : ac.eval (.tmp 38) = (.bool false) := hw 2 rfl
                  clear hd hz hf hw
                  simp only [Region.wanted, if_true, Oper.wp, execOp, resolve, List.map_toArray, List.map_cons, List.map_nil, Option.map_some, Option.map_none, e0]
                  go_simp
                  exact hK _ _ rfl (Same.refl _ _)
                · intro ac wc hs hd hz hf hw K hK
                  have eg : ac.eval (.tmp 39) = .bool false := hw 3 rfl
                  refine run_wanted (j := 3) (d := 39) (b := false) rfl rfl hz (of_decide_eq_true rfl) eg ?_
                  clear eg
                  have e0 : ac.eval (.tmp 11) = (.pointer (some ⟨wr.heap.size, 0, none⟩)) := hf 11 rfl
                  clear hd hz hf hw
                  simp only [Oper.wp, execOp, resolve, List.map_toArray, List.map_cons, List.map_nil, Option.map_some, Option.map_none, e0]
                  go_simp
                  exact hK _ _ rfl (Same.refl _ _)
                · intro ac wc hs hd hz hf hw K hK
                  have eg : ac.eval (.tmp 39) = .bool false := hw 3 rfl
                  refine run_wanted (j := 3) (d := 39) (b := false) rfl rfl hz (of_decide_eq_true rfl) eg ?_
                  clear eg
                  have e0 : ac.eval (.tmp 40) = (.pointer (some ⟨wr.heap.size, 0, none⟩)) := hw 4 rfl
                  have m0 : wc.cell? ⟨wr.heap.size, 0, none⟩ = some (.int .i64 x.kind) := hs.cell (p := ⟨wr.heap.size, 0, none⟩) trivial c0
                  clear hd hz hf hw
                  simp only [Oper.wp, execOp, resolve, List.map_toArray, List.map_cons, List.map_nil, Option.map_some, Option.map_none, e0]
                  go_simp
                  exact hK _ _ rfl (Same.refl _ _)
                · intro ac wc hs hd hz hf hw K hK
                  have eg : ac.eval (.tmp 39) = .bool false := hw 3 rfl
                  refine run_wanted (j := 3) (d := 39) (b := false) rfl rfl hz (of_decide_eq_true rfl) eg ?_
                  clear eg
                  have e0 : ac.eval (.tmp 3) = (.pointer (some ⟨w.heap.size, 0, none⟩)) := hf 3 rfl
                  clear hd hz hf hw
                  simp only [Oper.wp, execOp, resolve, List.map_toArray, List.map_cons, List.map_nil, Option.map_some, Option.map_none, e0]
                  go_simp
                  exact hK _ _ rfl (Same.refl _ _)
                · intro ac wc hs hd hz hf hw K hK
                  have eg : ac.eval (.tmp 39) = .bool false := hw 3 rfl
                  refine run_wanted (j := 3) (d := 39) (b := false) rfl rfl hz (of_decide_eq_true rfl) eg ?_
                  clear eg
                  have e0 : ac.eval (.tmp 42) = (.pointer (some ⟨w.heap.size, 1, none⟩)) := hw 6 rfl
                  have m0 : wc.cell? ⟨w.heap.size, 1, none⟩ = some (.slice (some adc) cols.length cc) := hs.cell (p := ⟨w.heap.size, 1, none⟩) trivial t1
                  clear hd hz hf hw
                  simp only [Oper.wp, execOp, resolve, List.map_toArray, List.map_cons, List.map_nil, Option.map_some, Option.map_none, e0]
                  go_simp
                  exact hK _ _ rfl (Same.refl _ _)
                · intro ac wc hs hd hz hf hw K hK
                  have eg : ac.eval (.tmp 39) = .bool false := hw 3 rfl
                  refine run_wanted (j := 3) (d := 39) (b := false) rfl rfl hz (of_decide_eq_true rfl) eg ?_
                  clear eg
                  have e0 : ac.eval (.tmp 10) = (.int .i64 j) := hf 10 rfl
                  clear hd hz hf hw
                  simp only [Oper.wp, execOp, resolve, List.map_toArray, List.map_cons, List.map_nil, Option.map_some, Option.map_none, e0]
                  go_simp
                  exact hK _ _ rfl (Same.refl _ _)
                · intro ac wc hs hd hz hf hw K hK
                  have eg : ac.eval (.tmp 39) = .bool false := hw 3 rfl
                  refine run_wanted (j := 3) (d := 39) (b := false) rfl rfl hz (of_decide_eq_true rfl) eg ?_
                  clear eg
                  have e0 : ac.eval (.tmp 43) = (.slice (some adc) cols.length cc) := hw 7 rfl
                  have e1 : ac.eval (.tmp 44) = (.int .i64 j) := hw 8 rfl
                  clear hd hz hf hw
                  simp only [Oper.wp, execOp, resolve, List.map_toArray, List.map_cons, List.map_nil, Option.map_some, Option.map_none, e0, e1]
                  go_simp
                  exact hK _ _ rfl (Same.refl _ _)
                · intro ac wc hs hd hz hf hw K hK
                  have eg : ac.eval (.tmp 39) = .bool false := hw 3 rfl
                  refine run_wanted (j := 3) (d := 39) (b := false) rfl rfl hz (of_decide_eq_true rfl) eg ?_
                  clear eg
                  have e0 : ac.eval (.tmp 45) = (.pointer (some (adc.add (j * 3)))) := hw 9 rfl
                  clear hd hz hf hw
                  simp only [Oper.wp, execOp, resolve, List.map_toArray, List.map_cons, List.map_nil, Option.map_some, Option.map_none, e0]
                  go_simp
                  exact hK _ _ rfl (Same.refl _ _)
                · intro ac wc hs hd hz hf hw K hK
                  have eg : ac.eval (.tmp 39) = .bool false := hw 3 rfl
                  refine run_wanted (j := 3) (d := 39) (b := false) rfl rfl hz (of_decide_eq_true rfl) eg ?_
                  clear eg
                  have e0 : ac.eval (.tmp 46) = (.pointer (some ⟨(adc.add (j * 3)).block, (adc.add (j * 3)).off + 1, none⟩)) := hw 10 rfl
                  have m0 : wc.cell? ⟨(adc.add (j * 3)).block, (adc.add (j * 3)).off + 1, none⟩ = some (.int .i64 k.kind) := hs.cell (p := ⟨(adc.add (j * 3)).block, (adc.add (j * 3)).off + 1, none⟩) trivial e1x
                  clear hd hz hf hw
                  simp only [Oper.wp, execOp, resolve, List.map_toArray, List.map_cons, List.map_nil, Option.map_some, Option.map_none, e0]
                  go_simp
                  exact hK _ _ rfl (Same.refl _ _)
                · intro ac wc hs hd hz hf hw K hK
                  have eg : ac.eval (.tmp 39) = .bool false := hw 3 rfl
                  refine run_wanted (j := 3) (d := 39) (b := false) rfl rfl hz (of_decide_eq_true rfl) eg ?_
                  clear eg
                  have e0 : ac.eval (.tmp 41) = (.int .i64 x.kind) := hw 5 rfl
                  have e1 : ac.eval (.tmp 47) = (.int .i64 k.kind) := hw 11 rfl
                  clear hd hz hf hw
                  simp only [Oper.wp, execOp, resolve, List.map_toArray, List.map_cons, List.map_nil, Option.map_some, Option.map_none, e0, e1]
                  go_simp
                  exact hK _ _ rfl (Same.refl _ _)
                · intro ac wc hs hd hz hf hw K hK
                  have eg : ac.eval (.tmp 39) = .bool false := hw 3 rfl
                  refine run_wanted (j := 3) (d := 39) (b := false) rfl rfl hz (of_decide_eq_true rfl) eg ?_
                  clear eg
                  have e0 : ac.eval (.tmp 48) = (.bool false) := hw 12 rfl
                  clear hd hz hf hw
                  simp only [Oper.wp, execOp, resolve, List.map_toArray, List.map_cons, List.map_nil, Option.map_some, Option.map_none, e0]
                  go_simp
                  exact hK _ _ rfl (Same.refl _ _)
                · intro ac wc hs hd hz hf hw K hK
                  have eg : ac.eval (.tmp 49) = .bool false := hw 13 rfl
                  refine skip_wanted (j := 13) (d := 49) (b := false) rfl rfl hz (of_decide_eq_true rfl) eg ?_
                  clear eg
                  exact hK _ _ rfl (Same.refl _ _)
                · intro ac wc hs hd hz hf hw K hK
                  have eg : ac.eval (.tmp 49) = .bool false := hw 13 rfl
                  refine skip_wanted (j := 13) (d := 49) (b := false) rfl rfl hz (of_decide_eq_true rfl) eg ?_
                  clear eg
                  exact hK _ _ rfl (Same.refl _ _)
                · intro ac wc hs hd hz hf hw K hK
                  have eg : ac.eval (.tmp 49) = .bool false := hw 13 rfl
                  refine skip_wanted (j := 13) (d := 49) (b := false) rfl rfl hz (of_decide_eq_true rfl) eg ?_
                  clear eg
                  exact hK _ _ rfl (Same.refl _ _)
                · intro ac wc hs hd hz hf hw K hK
                  have eg : ac.eval (.tmp 39) = .bool false := hw 3 rfl
                  refine run_wanted (j := 3) (d := 39) (b := false) rfl rfl hz (of_decide_eq_true rfl) eg ?_
                  clear eg
                  have e0 : ac.eval (.tmp 49) = (.bool false) := hw 13 rfl
                  have e1 : ac.eval (.tmp 52) = undef := hw 16 rfl
                  clear hd hz hf hw
                  simp only [Oper.wp, execOp, resolve, List.map_toArray, List.map_cons, List.map_nil, Option.map_some, Option.map_none, e0, e1]
                  go_simp
                  exact hK _ _ rfl (Same.refl _ _)
                · intro ac wc hs hd hz hf hw K hK
                  have e0 : ac.eval (.tmp 39) = (.bool false) := hw 3 rfl
                  have e1 : ac.eval (.tmp 53) = (.bool false) := hw 17 rfl
                  clear hd hz hf hw
                  simp only [Region.wanted, if_true, Oper.wp, execOp, resolve, List.map_toArray, List.map_cons, List.map_nil, Option.map_some, Option.map_none, e0, e1]
                  go_simp
                  exact hK _ _ rfl (Same.refl _ _)
              · intro wR hsR
                simp only [putAll, Act.put, List.setIfInBounds_toArray, List.set_cons_succ, List.set_cons_zero]
                have K := Hrel.out.trans (by rw [Hd.out, HE.out])
                have HKK : Hid (F = if ((row.zip cols).drop (j + 1)).all rowB then evalF cols row e else (.zero, 9)) := Lib.hid K
                have HsR := Lib.hid hsR
                clear K hsR
                go_wp2
                go_roundw
                case rel => exact ⟨j + 1, by omega, by go_num, HKK.out, HSx.out.trans HsR.out⟩
                case measure => simp [intOf]; omega
        · obtain rfl : j = row.length := by omega
          have K : F = evalF cols row e := Hrel.out.trans (by rw [List.drop_of_length_le (by simp; omega)]; rfl)
          have HKK := Lib.hid K
          have gev := Hev.out Hrl.out Hok.out wr (HS3.out.trans hS)
          rw [← K] at gev
          have k0 : wr.cell? ⟨w.heap.size + 1, 0, none⟩ = some (.int .i64 e.kind) := hre.cell 0
          have k1 : wr.cell? ⟨w.heap.size + 1, 1, none⟩ = some (.string (str e.s)) := hre.cell 1
          have k2 : wr.cell? ⟨w.heap.size + 1, 2, none⟩ = some (.int .i64 e.v.kind) := hre.cell 2
          have k3 : wr.cell? ⟨w.heap.size + 1, 3, none⟩ = some (.int .i64 e.v.n) := hre.cell 3
          have k4 : wr.cell? ⟨w.heap.size + 1, 4, none⟩ = some (.string (str e.v.s)) := hre.cell 4
          have k5 : wr.cell? ⟨w.heap.size + 1, 5, none⟩ = some (.slice A e.args.length c) := hre.cell 5
          have t0 : wr.cell? ⟨w.heap.size, 0, none⟩ = some (.string (str nm)) := hrt.cell 0
          have t1 : wr.cell? ⟨w.heap.size, 1, none⟩ = some (.slice Ac cols.length cc) := hrt.cell 1
          have t2 : wr.cell? ⟨w.heap.size, 2, none⟩ = some (.int .i64 key) := hrt.cell 2
          have t3 : wr.cell? ⟨w.heap.size, 3, none⟩ = some (.int .i64 place) := hrt.cell 3
          have t4 : wr.cell? ⟨w.heap.size, 4, none⟩ = some (.int .i64 region) := hrt.cell 4
          have t5 : wr.cell? ⟨w.heap.size, 5, none⟩ = some (.slice a1 n1 c1) := hrt.cell 5
          have t6 : wr.cell? ⟨w.heap.size, 6, none⟩ = some (.slice a2 n2 c2) := hrt.cell 6
          have t7 : wr.cell? ⟨w.heap.size, 7, none⟩ = some (.slice a3 n3 c3) := hrt.cell 7
          have t8 : wr.cell? ⟨w.heap.size, 8, none⟩ = some (.int .i64 elect) := hrt.cell 8
          have t9 : wr.cell? ⟨w.heap.size, 9, none⟩ = some (.int .i64 commit) := hrt.cell 9
          have t10 : wr.cell? ⟨w.heap.size, 10, none⟩ = some (.int .i64 survive) := hrt.cell 10
          have z2 := hrr.lt
          clear K hS hre hrt hrr
          go_wp2_with (go_at_call 29; refine stopAt ?_)
          unfold Hid
          refine gev.mono ?_
          rintro e' w4 ⟨rfl, hS4⟩
          have HS4 := Lib.hid hS4
          have hrr4 := Hrr.out.keep hS4 trivial
          have r0 : w4.cell? ⟨w.heap.size + 2, 0, none⟩ = some (.int .i64 0) := hrr4.cell 0
          have r1 : w4.cell? ⟨w.heap.size + 2, 1, none⟩ = some (.int .i64 0) := hrr4.cell 1
          have r2 : w4.cell? ⟨w.heap.size + 2, 2, none⟩ = some (.string (str [])) := hrr4.cell 2
          have f0 : w4.frozen? ⟨w.heap.size + 2, 0, none⟩ = false := hrr4.frozen 0
          have f1 : w4.frozen? ⟨w.heap.size + 2, 1, none⟩ = false := hrr4.frozen 1
          have f2 : w4.frozen? ⟨w.heap.size + 2, 2, none⟩ = false := hrr4.frozen 2
          have Hrr4 := Lib.hid hrr4
          have z4 := hrr4.lt
          obtain ⟨dv, dn⟩ := F
          clear hS4 gev hrr4 k0 k1 k2 k3 k4 k5 t0 t1 t2 t3 t4 t5 t6 t7 t8 t9 t10
          go_wp2
          refine bodyPost_ret (Eval_results (n := dn) (Hrr4.out.set3 dv) rfl rfl) rfl (ValEP.mk' rfl ?_)
          exact (HS3.out.trans (HSr.out.trans HS4.out)).set3 (fun h => by omega) _ _ _
    · have b5 : ((row.length : Int) != (cols.length : Int)) = true := by simp; omega
      have b6 : (row.length != cols.length) = true := by simpa using hrl
      have K : F = (.zero, 9) := HK.out.trans (by rw [if_neg]; unfold mayRowB; simp [hrl])
      have HKK := Lib.hid K
      clear K hrl
      go_wp2
      refine bodyPost_ret (Eval_results (n := 9) (Hrr3.out.set3 .zero) rfl rfl) rfl (ValEP.mk' HKK.out ?_)
      exact HS3.out.set3 (fun h => by omega) _ _ _
  · have K := HK.out.trans (if_pos (by simpa using h0))
    have HKK : Hid (F = (.zero, te)) := Lib.hid K
    have b4 : (te != 0) = true := by simpa using h0
    clear K h0
    go_wp2
    refine bodyPost_ret (Eval_results (n := te) (Hrr3.out.set3 .zero) rfl rfl) rfl (ValEP.mk' HKK.out ?_)
    exact HS3.out.set3 (fun h => by omega) _ _ _
end Go.Proofs.Ytakbikibahhepaa
