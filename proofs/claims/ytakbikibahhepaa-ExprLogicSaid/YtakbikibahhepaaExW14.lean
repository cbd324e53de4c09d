/-
  The walks of what the laws of expr use: the table, trees made by hand, the program's value of one, measures.
-/
import Derived.Test.YtakbikibahhepaaExW13
set_option linter.unusedSimpArgs false
set_option linter.unusedVariables false
namespace Go.Proofs.Ytakbikibahhepaa
open Go.RowKit

def cols3 : List Clm := [⟨[78], 2, true⟩, ⟨[66], 1, true⟩, ⟨[83], 3, true⟩]
def tab0 : TabT := ⟨[84], 0, 0, 0, .slice none 0 0, .slice none 0 0, .slice none 0 0, 0, 0, 0⟩
/-- A value that is the laws' table. -/
def TabVal (w : World) (v : Value) : Prop := ∃ u, v = tabV u tab0 ∧ TabR w (fun _ => True) u tab0 cols3
theorem TabVal.keepAll {w w' : World} {v : Value} (h : TabVal w v) (hs : Same (fun _ => True) w w') : TabVal w' v := by
  obtain ⟨u, h1, h2⟩ := h
  exact ⟨u, h1, h2.keepAll hs⟩
def SP.tab : SP := ⟨fun v w => TabVal w v, fun _ _ _ h k => h.keepAll k⟩
def SP.fresh (B : Nat) (t : TypeId) (xs : List Value) : SP := ⟨fun v w => ∃ g, v = .pointer (some ⟨g, 0, none⟩) ∧ B ≤ g ∧ Row w g t xs, fun _ _ _ ⟨g, h1, h2, h3⟩ k => ⟨g, h1, h2, h3.keep k trivial⟩⟩
def TableP (w : World) (e : Ending) (w' : World) : Prop := ∃ v, e = .returned v ∧ TabVal w' v ∧ Same (fun _ => True) w w'
set_option maxRecDepth 100000 in
set_option maxHeartbeats 1000000 in
theorem table_any (w : World) : Calls Try.prog 12 #[] w (TableP w) := by
  go_enter Try.func12, Try.ntmps12
  go_wp2
  go_outline
  refine bodyPost_ret (v := tabV (.slice (some ⟨w.heap.size + 1, 0, none⟩) 3 3) tab0) ?_ rfl ⟨_, rfl, ⟨_, rfl, ?_, _, _, _, _, _, _, _, _, _, rfl, rfl, rfl⟩, ?_⟩
  · simp [results, Try.results12, go_sem, tab0, str]
  · refine ⟨_, 3, rfl, by simp [cols3], by simp [maxLen], ?_⟩
    have h := (Row.new (w.alloc (.cells #[.string ⟨#[84]⟩, .slice (some ⟨w.heap.size + 1, 0, none⟩) 3 3, .int .i64 0, .int .i64 0, .int .i64 0, .slice none 0 0, .slice none 0 0, .slice none 0 0, .int .i64 0, .int .i64 0, .int .i64 0] 32)) 57 (cols3.flatMap colCs)).sl (size := 3) (off := 0) (n := 3) (by simp [cols3, colCs])
    rw [List.drop_zero, List.take_of_length_le (by simp [cols3, colCs]), World.size_alloc] at h
    exact h.mono (fun _ _ _ => trivial)
  · exact ((Same.refl _ _).alloc _).alloc _
set_option maxHeartbeats 400000 in
theorem lit_any (v : Val) (w : World) : Calls Try.prog 22 #[valV v] w (fun e w' => e = .returned (exV (.slice none 0 0) (.mk 1 [] v [])) ∧ Same (fun _ => True) w w') := by
  go_enter Try.func22, Try.ntmps22
  go_wp2
  refine bodyPost_ret (v := exV (.slice none 0 0) (.mk 1 [] v [])) ?_ rfl ⟨rfl, ?_⟩
  · simp [results, Try.results22, go_sem, Ex.kind, Ex.s, Ex.v, str_nil]
  · exact ((Same.refl _ _).alloc _).alloc _
set_option maxHeartbeats 400000 in
theorem name_any (s : List UInt8) (w : World) : Calls Try.prog 23 #[.string (str s)] w (fun e w' => e = .returned (exV (.slice none 0 0) (.mk 2 s .zero [])) ∧ Same (fun _ => True) w w') := by
  go_enter Try.func23, Try.ntmps23
  go_wp2
  refine bodyPost_ret (v := exV (.slice none 0 0) (.mk 2 s .zero [])) ?_ rfl ⟨rfl, ?_⟩
  · simp [results, Try.results23, go_sem, Ex.kind, Ex.s, Ex.v, Val.zero, str_nil]
  · exact (Same.refl _ _).alloc _
set_option maxHeartbeats 400000 in
theorem op_any (s : List UInt8) (A : Option Addr) (n c : Nat) (l : List Ex) (w : World) : Calls Try.prog 21 #[.string (str s), .slice A n c] w (fun e w' => e = .returned (exV (.slice A n c) (.mk 3 s .zero l)) ∧ Same (fun _ => True) w w') := by
  go_enter Try.func21, Try.ntmps21
  go_wp2
  refine bodyPost_ret (v := exV (.slice A n c) (.mk 3 s .zero l)) ?_ rfl ⟨rfl, ?_⟩
  · simp [results, Try.results21, go_sem, Ex.kind, Ex.s, Ex.v, Val.zero, str_nil]
  · exact (Same.refl _ _).alloc _
/-- A slice of trees that was just built. -/
theorem ExL.fresh {w : World} (us : List Value) (l : List Ex) (hu : us.length = l.length) (he : ∀ (i : Nat) (u : Value) (e : Ex), us[i]? = some u → l[i]? = some e → ExR w (fun _ => True) u e) (hm : l.length ≤ maxLen) :
    ExL (w.alloc (.cells ((us.zip l).flatMap fun p => exCs p.1 p.2).toArray 26)) (fun _ => True) (.slice (some ⟨w.heap.size, 0, none⟩) l.length l.length) l := by
  have hfl : ((us.zip l).flatMap fun p => exCs p.1 p.2).length = l.length * 6 := by
    rw [flat_len (fun p : Value × Ex => exCs p.1 p.2) 6 (fun _ => rfl)]; simp [hu]
  have h := (Row.new w 26 ((us.zip l).flatMap fun p => exCs p.1 p.2)).sl (size := 6) (off := 0) (n := l.length) (by rw [hfl]; omega)
  rw [List.drop_zero, List.take_of_length_le (by rw [hfl]; omega)] at h
  exact ⟨us, _, _, rfl, hu, Nat.le_refl _, hm, h.mono (fun _ _ _ => trivial), fun i u e h1 h2 => (he i u e h1 h2).keepAll ((Same.refl _ _).alloc _)⟩
theorem ExR.leaf (w : World) (S : Nat → Prop) (k : Int) (s : List UInt8) (v : Val) : ExR w S (.slice none 0 0) (.mk k s v []) := .mk k s v [] [] none 0 rfl (Nat.le_refl _) (by simp [maxLen]) (by simpa using Sl.nil w S 6 none) (fun i u e h => by simp at h)
theorem exEval_v (v u rv : Value) (row : List Val) (e : Ex) (W : World) (ht : TabVal W v) (hv : ExR W (fun _ => True) u e) (hrow : VaR W (fun _ => True) rv row) (hsz : e.size ≤ 100000) (hei : ExI e) (hri : ∀ x ∈ row, i64B x.n = true) :
    Calls Try.prog 15 #[v, rv, exV u e] W (ValEP (evalTF cols3 row e) W) := by
  obtain ⟨cu, rfl, h⟩ := ht
  exact exEval_any u cu rv tab0 cols3 row e (fun _ => True) W hv h hrow hsz hei hri
theorem exType_v (v u : Value) (e : Ex) (W : World) (ht : TabVal W v) (hv : ExR W (fun _ => True) u e) (hsz : e.size ≤ 100000) :
    Calls Try.prog 13 #[v, exV u e] W (NumS (typeF cols3 e) W) := by
  obtain ⟨cu, rfl, h⟩ := ht
  exact exType_any u cu tab0 cols3 e (fun _ => True) W hv h hsz
def ValBP (r : Val × Int) (w : World) (e : Ending) (w' : World) : Prop := e = .returned (.tuple #[valV r.1, .bool (decide (r.2 = 0))]) ∧ Same (fun _ => True) w w'
theorem value_results {W : World} {k : Nat} {v : Val} {b : Bool} (R : Row W k 23 (valCs v)) {tmps : Array Value} (h1 : tmps.getD 4 undef = .pointer (some ⟨k, 0, none⟩)) (h2 : tmps.getD 5 undef = .bool b) :
    (results Try.f20 tmps).run Try.prog W = .ok (.tuple #[valV v, .bool b]) W := by
  have d0 : W.cell? ⟨k, 0, none⟩ = some (.int .i64 v.kind) := R.cell 0
  have d1 : W.cell? ⟨k, 1, none⟩ = some (.int .i64 v.n) := R.cell 1
  have d2 : W.cell? ⟨k, 2, none⟩ = some (.string (str v.s)) := R.cell 2
  simp at h1 h2
  simp [results, Try.results20, h1, h2, go_sem, d0, d1, d2]
set_option maxRecDepth 100000 in
set_option maxHeartbeats 4000000 in
theorem value_any (u rv : Value) (row : List Val) (e : Ex) (w : World) (hv : ExR w (fun _ => True) u e) (hrow : VaR w (fun _ => True) rv row) (hsz : e.size ≤ 100000) (hei : ExI e) (hri : ∀ x ∈ row, i64B x.n = true) :
    Calls Try.prog 20 #[exV u e, rv] w (ValBP (evalTF cols3 row e) w) := by
  obtain ⟨A, c, rfl, hc, hm⟩ := hv.toL.form
  obtain ⟨Ar, cr, rfl, hrc, hrm⟩ := hrow.form
  unfold maxLen at hm hrm
  have hS0 := ((Same.refl (fun _ => True) w).alloc (.cells (exCs (.slice A e.args.length c) e).toArray 26)).alloc (.cells (valCs .zero).toArray 23)
  have hre := (Row.new w 26 (exCs (.slice A e.args.length c) e)).keep ((Same.refl (fun _ => True) _).alloc (.cells (valCs .zero).toArray 23)) trivial
  have hrr := Row.new (w.alloc (.cells (exCs (.slice A e.args.length c) e).toArray 26)) 23 (valCs .zero)
  rw [World.size_alloc] at hrr
  obtain ⟨W0, hW0⟩ : ∃ W0, W0 = (w.alloc (.cells (exCs (.slice A e.args.length c) e).toArray 26)).alloc (.cells (valCs .zero).toArray 23) := ⟨_, rfl⟩
  have HW0 := Lib.hid hW0
  rw [← hW0] at hS0 hre hrr
  have HS := Lib.hid hS0
  have Hrr := Lib.hid hrr
  have hv1 := hv.keepAll hS0
  have hrow1 := RowR.keepAll hrow hS0
  have Hv1 := Lib.hid hv1
  have Hrow1 := Lib.hid hrow1
  obtain ⟨F, hF⟩ : ∃ F, evalTF cols3 row e = F := ⟨_, rfl⟩
  have Hev : Hid (∀ v W, TabVal W v → Same (fun _ => True) W0 W → Calls Try.prog 15 #[v, .slice Ar row.length cr, exV (.slice A e.args.length c) e] W (ValEP F W)) := Lib.hid fun v W h1 h2 => by
    rw [← hF]
    exact exEval_v v _ _ row e W h1 (Hv1.out.keepAll h2) (RowR.keepAll Hrow1.out h2) hsz hei hri
  rw [hF]
  obtain ⟨fv, fn⟩ := F
  have k0 : W0.cell? ⟨w.heap.size, 0, none⟩ = some (.int .i64 e.kind) := hre.cell 0
  have k1 : W0.cell? ⟨w.heap.size, 1, none⟩ = some (.string (str e.s)) := hre.cell 1
  have k2 : W0.cell? ⟨w.heap.size, 2, none⟩ = some (.int .i64 e.v.kind) := hre.cell 2
  have k3 : W0.cell? ⟨w.heap.size, 3, none⟩ = some (.int .i64 e.v.n) := hre.cell 3
  have k4 : W0.cell? ⟨w.heap.size, 4, none⟩ = some (.string (str e.v.s)) := hre.cell 4
  have k5 : W0.cell? ⟨w.heap.size, 5, none⟩ = some (.slice A e.args.length c) := hre.cell 5
  have z0 := hrr.lt
  clear hW0 hS0 hre hrr hv1 hrow1 hF hv hrow hei hri hsz
  go_enter Try.func20, Try.ntmps20
  go_wp2
  have e0 := HW0.out
  simp only [exCs, valCs, Val.zero, str_nil] at e0
  rw [← e0]
  clear e0
  refine wp_region_tail_d (L := [.of .tab, .eq (.slice Ar row.length cr), .eq (exV (.slice A e.args.length c) e), .eq (.tuple #[valV fv, .int .i64 fn]), .eq (.tuple #[valV fv, .int .i64 fn]), .eq (valV fv), .eq (.int .i64 fn), .of (.fresh W0.heap.size 23 (valCs .zero))]) 8 6 (by omega) (by kernel_rfl) (by kernel_rfl) rfl rfl rfl rfl rfl rfl ?_ ?_ ?_
  · refine ⟨?_, ?_, ?_, ?_, ?_, ?_, ?_, ?_, trivial⟩
    · intro ac wc hs hd hz hf hw K hK
      clear hd hz hf hw
      simp only [Region.wanted, if_true, Oper.wp, execOp, resolve, List.map_toArray, List.map_cons, List.map_nil, Option.map_some, Option.map_none]
      go_simp
      refine (table_any _).mono ?_
      rintro e wd ⟨vt, rfl, ht9, hs9⟩
      exact hK _ _ ht9 hs9
    · intro ac wc hs hd hz hf hw K hK
      have e0 : ac.eval (.tmp 1) = (.slice Ar row.length cr) := hf 1 rfl
      clear hd hz hf hw
      simp only [Region.wanted, if_true, Oper.wp, execOp, resolve, List.map_toArray, List.map_cons, List.map_nil, Option.map_some, Option.map_none, e0]
      go_simp
      exact hK _ _ rfl (Same.refl _ _)
    · intro ac wc hs hd hz hf hw K hK
      have e0 : ac.eval (.tmp 2) = (.pointer (some ⟨w.heap.size, 0, none⟩)) := hf 2 rfl
      have m0 : wc.cell? ⟨w.heap.size, 0, none⟩ = some (.int .i64 e.kind) := hs.cell (p := ⟨w.heap.size, 0, none⟩) trivial k0
      have m1 : wc.cell? ⟨w.heap.size, 1, none⟩ = some (.string (str e.s)) := hs.cell (p := ⟨w.heap.size, 1, none⟩) trivial k1
      have m2 : wc.cell? ⟨w.heap.size, 2, none⟩ = some (.int .i64 e.v.kind) := hs.cell (p := ⟨w.heap.size, 2, none⟩) trivial k2
      have m3 : wc.cell? ⟨w.heap.size, 3, none⟩ = some (.int .i64 e.v.n) := hs.cell (p := ⟨w.heap.size, 3, none⟩) trivial k3
      have m4 : wc.cell? ⟨w.heap.size, 4, none⟩ = some (.string (str e.v.s)) := hs.cell (p := ⟨w.heap.size, 4, none⟩) trivial k4
      have m5 : wc.cell? ⟨w.heap.size, 5, none⟩ = some (.slice A e.args.length c) := hs.cell (p := ⟨w.heap.size, 5, none⟩) trivial k5
      clear hd hz hf hw
      simp only [Region.wanted, if_true, Oper.wp, execOp, resolve, List.map_toArray, List.map_cons, List.map_nil, Option.map_some, Option.map_none, e0]
      go_simp
      exact hK _ _ rfl (Same.refl _ _)
    · intro ac wc hs hd hz hf hw K hK
      have p0 : (.tab : SP).p (ac.eval (.tmp 9)) wc := hw 0 rfl
      obtain ⟨u0, e0⟩ : ∃ u, ac.eval (.tmp 9) = u := ⟨_, rfl⟩
      rw [e0] at p0
      have e1 : ac.eval (.tmp 10) = (.slice Ar row.length cr) := hw 1 rfl
      have e2 : ac.eval (.tmp 11) = (exV (.slice A e.args.length c) e) := hw 2 rfl
      clear hd hz hf hw
      simp only [Region.wanted, if_true, Oper.wp, execOp, resolve, List.map_toArray, List.map_cons, List.map_nil, Option.map_some, Option.map_none, e0, e1, e2]
      go_simp
      refine (Hev.out _ _ p0 hs).mono ?_
      rintro e wd ⟨rfl, hs2⟩
      exact hK _ _ rfl hs2
    · intro ac wc hs hd hz hf hw K hK
      have e0 : ac.eval (.tmp 12) = (.tuple #[valV fv, .int .i64 fn]) := hw 3 rfl
      clear hd hz hf hw
      simp only [Region.wanted, if_true, Oper.wp, execOp, resolve, List.map_toArray, List.map_cons, List.map_nil, Option.map_some, Option.map_none, e0]
      go_simp
      exact hK _ _ rfl (Same.refl _ _)
    · intro ac wc hs hd hz hf hw K hK
      have e0 : ac.eval (.tmp 8) = (.tuple #[valV fv, .int .i64 fn]) := hw 4 rfl
      clear hd hz hf hw
      simp only [Region.wanted, if_true, Oper.wp, execOp, resolve, List.map_toArray, List.map_cons, List.map_nil, Option.map_some, Option.map_none, e0]
      go_simp
      exact hK _ _ rfl (Same.refl _ _)
    · intro ac wc hs hd hz hf hw K hK
      have e0 : ac.eval (.tmp 8) = (.tuple #[valV fv, .int .i64 fn]) := hw 4 rfl
      clear hd hz hf hw
      simp only [Region.wanted, if_true, Oper.wp, execOp, resolve, List.map_toArray, List.map_cons, List.map_nil, Option.map_some, Option.map_none, e0]
      go_simp
      exact hK _ _ rfl (Same.refl _ _)
    · intro ac wc hs hd hz hf hw K hK
      clear hd hz hf hw
      simp only [Region.wanted, if_true, Oper.wp, execOp, resolve, List.map_toArray, List.map_cons, List.map_nil, Option.map_some, Option.map_none]
      go_simp
      exact hK _ _ ⟨_, rfl, hs.size, Row.new wc _ (valCs .zero)⟩ ((Same.refl _ _).alloc _)
  · intro vs wR hvl hvp hsR
    rcases vs with _ | ⟨z0, _ | ⟨z1, _ | ⟨z2, _ | ⟨z3, _ | ⟨z4, _ | ⟨z5, _ | ⟨z6, _ | ⟨z7, _ | ⟨zz, zr⟩⟩⟩⟩⟩⟩⟩⟩⟩
    rotate_right 1
    · simp at hvl
    · simp at hvl
    · simp at hvl
    · simp at hvl
    · simp at hvl
    · simp at hvl
    · simp at hvl
    · simp at hvl
    · simp at hvl
    · have htb : (.tab : SP).p z0 wR := hvp 0 (by omega)
      obtain rfl : z1 = (.slice Ar row.length cr) := hvp 1 (by omega)
      obtain rfl : z2 = (exV (.slice A e.args.length c) e) := hvp 2 (by omega)
      obtain rfl : z3 = (.tuple #[valV fv, .int .i64 fn]) := hvp 3 (by omega)
      obtain rfl : z4 = (.tuple #[valV fv, .int .i64 fn]) := hvp 4 (by omega)
      obtain rfl : z5 = (valV fv) := hvp 5 (by omega)
      obtain rfl : z6 = (.int .i64 fn) := hvp 6 (by omega)
      have hfr : ((.fresh W0.heap.size 23 (valCs .zero)) : SP).p z7 wR := hvp 7 (by omega)
      clear hvl hvp
      simp only [putAll, Act.put, List.setIfInBounds_toArray, List.set_cons_succ, List.set_cons_zero, List.take_succ_cons, List.take_zero, List.drop_succ_cons, List.drop_zero, List.eraseIdx_cons_succ, List.eraseIdx_cons_zero]
      obtain ⟨g, rfl, hg, hrg⟩ := hfr
      have hrrR := Hrr.out.keep hsR trivial
      have r0 : wR.cell? ⟨w.heap.size + 1, 0, none⟩ = some (.int .i64 0) := hrrR.cell 0
      have r1 : wR.cell? ⟨w.heap.size + 1, 1, none⟩ = some (.int .i64 0) := hrrR.cell 1
      have r2 : wR.cell? ⟨w.heap.size + 1, 2, none⟩ = some (.string (str [])) := hrrR.cell 2
      have f0 : wR.frozen? ⟨w.heap.size + 1, 0, none⟩ = false := hrrR.frozen 0
      have f1 : wR.frozen? ⟨w.heap.size + 1, 1, none⟩ = false := hrrR.frozen 1
      have f2 : wR.frozen? ⟨w.heap.size + 1, 2, none⟩ = false := hrrR.frozen 2
      have c0 : wR.cell? ⟨g, 0, none⟩ = some (.int .i64 0) := hrg.cell 0
      have c1 : wR.cell? ⟨g, 1, none⟩ = some (.int .i64 0) := hrg.cell 1
      have c2 : wR.cell? ⟨g, 2, none⟩ = some (.string (str [])) := hrg.cell 2
      have h0 : wR.frozen? ⟨g, 0, none⟩ = false := hrg.frozen 0
      have h1 : wR.frozen? ⟨g, 1, none⟩ = false := hrg.frozen 1
      have h2 : wR.frozen? ⟨g, 2, none⟩ = false := hrg.frozen 2
      have HrrR := Lib.hid hrrR
      have Hrg := Lib.hid hrg
      have HsR := Lib.hid hsR
      have zR := hrrR.lt
      have zG := hrg.lt
      have hne : Hid (g ≠ w.heap.size + 1) := Lib.hid (by omega)
      have q1 : (fn == 0) = decide (fn = 0) := rfl
      clear hrrR hsR htb k0 k1 k2 k3 k4 k5 hrg
      go_wp2
      refine bodyPost_ret (value_results (b := decide (fn = 0)) ((HrrR.out.keep ((Same.refl (fun k => k ≠ g) wR).set3 (k := g) (fun _ h => h rfl) _ _ _) (fun h => hne.out h.symm)).set3 fv) rfl rfl) rfl ⟨rfl, ?_⟩
      exact ((HS.out.trans HsR.out).set3 (fun h => by omega) _ _ _).set3 (fun h => by omega) _ _ _
  · intro vs wR hvl hvp hsR
    rcases vs with _ | ⟨z0, _ | ⟨z1, _ | ⟨z2, _ | ⟨z3, _ | ⟨z4, _ | ⟨z5, _ | ⟨z7, _ | ⟨zz, zr⟩⟩⟩⟩⟩⟩⟩⟩
    rotate_right 1
    · simp at hvl
    · simp at hvl
    · simp at hvl
    · simp at hvl
    · simp at hvl
    · simp at hvl
    · simp at hvl
    · simp at hvl
    · have htb : (.tab : SP).p z0 wR := hvp 0 (by omega)
      obtain rfl : z1 = (.slice Ar row.length cr) := hvp 1 (by omega)
      obtain rfl : z2 = (exV (.slice A e.args.length c) e) := hvp 2 (by omega)
      obtain rfl : z3 = (.tuple #[valV fv, .int .i64 fn]) := hvp 3 (by omega)
      obtain rfl : z4 = (.tuple #[valV fv, .int .i64 fn]) := hvp 4 (by omega)
      obtain rfl : z5 = (valV fv) := hvp 5 (by omega)
      have hfr : ((.fresh W0.heap.size 23 (valCs .zero)) : SP).p z7 wR := hvp 6 (by omega)
      clear hvl hvp
      simp only [putAll, Act.put, List.setIfInBounds_toArray, List.set_cons_succ, List.set_cons_zero, List.take_succ_cons, List.take_zero, List.drop_succ_cons, List.drop_zero, List.eraseIdx_cons_succ, List.eraseIdx_cons_zero]
      obtain ⟨g, rfl, hg, hrg⟩ := hfr
      have hrrR := Hrr.out.keep hsR trivial
      have r0 : wR.cell? ⟨w.heap.size + 1, 0, none⟩ = some (.int .i64 0) := hrrR.cell 0
      have r1 : wR.cell? ⟨w.heap.size + 1, 1, none⟩ = some (.int .i64 0) := hrrR.cell 1
      have r2 : wR.cell? ⟨w.heap.size + 1, 2, none⟩ = some (.string (str [])) := hrrR.cell 2
      have f0 : wR.frozen? ⟨w.heap.size + 1, 0, none⟩ = false := hrrR.frozen 0
      have f1 : wR.frozen? ⟨w.heap.size + 1, 1, none⟩ = false := hrrR.frozen 1
      have f2 : wR.frozen? ⟨w.heap.size + 1, 2, none⟩ = false := hrrR.frozen 2
      have c0 : wR.cell? ⟨g, 0, none⟩ = some (.int .i64 0) := hrg.cell 0
      have c1 : wR.cell? ⟨g, 1, none⟩ = some (.int .i64 0) := hrg.cell 1
      have c2 : wR.cell? ⟨g, 2, none⟩ = some (.string (str [])) := hrg.cell 2
      have h0 : wR.frozen? ⟨g, 0, none⟩ = false := hrg.frozen 0
      have h1 : wR.frozen? ⟨g, 1, none⟩ = false := hrg.frozen 1
      have h2 : wR.frozen? ⟨g, 2, none⟩ = false := hrg.frozen 2
      have HrrR := Lib.hid hrrR
      have Hrg := Lib.hid hrg
      have HsR := Lib.hid hsR
      have zR := hrrR.lt
      have zG := hrg.lt
      have hne : Hid (g ≠ w.heap.size + 1) := Lib.hid (by omega)
      have q1 : (fn == 0) = decide (fn = 0) := rfl
      clear hrrR hsR htb k0 k1 k2 k3 k4 k5 hrg
      go_wp2
      refine bodyPost_ret (value_results (b := decide (fn = 0)) ((HrrR.out.keep ((Same.refl (fun k => k ≠ g) wR).set3 (k := g) (fun _ h => h rfl) _ _ _) (fun h => hne.out h.symm)).set3 fv) rfl rfl) rfl ⟨rfl, ?_⟩
      exact ((HS.out.trans HsR.out).set3 (fun h => by omega) _ _ _).set3 (fun h => by omega) _ _ _
end Go.Proofs.Ytakbikibahhepaa
