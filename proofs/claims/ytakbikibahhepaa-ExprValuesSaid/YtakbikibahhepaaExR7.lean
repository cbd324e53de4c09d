/-
  The walk of the document's value.
-/
import Derived.Test.YtakbikibahhepaaExL6
import Derived.Test.YtakbikibahhepaaExR3
import Derived.Test.YtakbikibahhepaaExR6
set_option linter.unusedSimpArgs false
set_option linter.unusedVariables false
namespace Go.Proofs.Ytakbikibahhepaa
open Go.RowKit

theorem wpList_appR1o {α : Type} {f : α → List Value} {n : Nat} {e : TypeId} {P : Program} {t : TypeId} {bytes : Nat} {z : Value} (T : SlT P t e n bytes z) (hf : ∀ x, (f x).length = n) (h1 : ∀ x, ∀ u ∈ f x, u.oneCell' = true) {w : World} {ops : Array Oper} {rest : List Oper} {o : Oper} {a : Act} {Q : Exit → Act → World → Prop} (hgd : o.guard = none) (s x : Operand)
    (ho : o.op = .call { callee := .builtin .append, args := #[s, x], argTypes := #[t, t] }) {B : Nat} {v : Value} {l : List α} {c : α}
    (hs : a.eval s = v) {g : Nat} (hx : a.eval x = .slice (some ⟨g, 0, none⟩) 1 1) (hg : g = w.heap.size) (hown : OwnR f n e w B v l) (hB : B ≤ w.heap.size) (hlen : l.length + 1 ≤ maxLen) (hbytes : (l.length + 1) * bytes ≤ 140737488355328)
    (hK : ∀ v' w', OwnR f n e w' B v' (l ++ [c]) → Same (fun k => some k ≠ v.ownBlock) w w' → wpList P ops Q rest (a.put o.dst v') w') : wpList P ops Q (o :: rest) a (w.alloc (.cells (f c).toArray e)) := by
  subst hg
  have hs1 : Same (fun _ => True) w (w.alloc (.cells (f c).toArray e)) := (Same.refl _ _).alloc _
  have hrow := Row.new w e (f c)
  have hsl := hrow.sl (size := n) (off := 0) (n := 1) (by rw [hf]; omega)
  rw [List.drop_zero, List.take_of_length_le (by rw [hf]; omega)] at hsl
  refine wpList_app T _ hgd s x ho B v l.length (l.flatMap f) hs (hown.keepAll hs1) _ _ 1 1 (f c) hx hsl (h1 c) hlen hbytes (by simp; omega) ?_
  intro v' w' h2 h3 h4
  refine hK v' w' ?_ ((hs1.mono fun _ _ _ => trivial).trans h3)
  unfold OwnR
  rw [List.length_append, List.flatMap_append]
  simpa using h2
theorem refval_results {W : World} {k : Nat} {v : Val} {n : Int} (R : Row W k 23 (valCs v)) {tmps : Array Value} (h1 : tmps.getD 6 undef = .pointer (some ⟨k, 0, none⟩)) (h2 : tmps.getD 7 undef = .int .i64 n) :
    (results Try.f31 tmps).run Try.prog W = .ok (.tuple #[valV v, .int .i64 n]) W := by
  have d0 : W.cell? ⟨k, 0, none⟩ = some (.int .i64 v.kind) := R.cell 0
  have d1 : W.cell? ⟨k, 1, none⟩ = some (.int .i64 v.n) := R.cell 1
  have d2 : W.cell? ⟨k, 2, none⟩ = some (.string (str v.s)) := R.cell 2
  simp at h1 h2
  simp [results, Try.results31, h1, h2, go_sem, d0, d1, d2]
def nullV (x : Val) : Bool := decide (x.kind = 0)
/-- What the arguments of an operator are. -/
def GoodV (o : Opk) (x : Val) : Prop := i64B x.n = true ∧ (logicB o = true → OfK 1 x)
theorem any_app (l : List Val) (x : Val) : (l ++ [x]).any nullV = (l.any nullV || nullV x) := by simp
theorem doc_not {a : Val} (h : OfK 1 a) (hk : a.kind ≠ 0) : truthV (a.n == 0) = truthV (decide (a ≠ ⟨1, 1, []⟩)) := by
  obtain ⟨h1, h2⟩ := h
  have h1 : a.kind = 1 := h1.resolve_right hk
  have e := truth_of h2 h1
  by_cases hn : a.n = 1
  · rw [e, hn]; rfl
  · have e2 : a = truthV false := by rw [e]; simp [hn]
    rw [e2]; rfl
theorem good_args {cols : List Clm} {row : List Val} (hrow : mayRowB cols row = true) {e : Ex} (h3 : e.kind = 3) (hty : (typedF cols e).2 = 0) (hvi : ∀ a ∈ e.args, i64B (evalF cols row a).1.n = true) (hok : ∀ a ∈ e.args, (typedF cols a).2 = 0) :
    ∀ a ∈ e.args, (evalF cols row a).2 = 0 → GoodV (opk e.s) (evalF cols row a).1 := by
  obtain ⟨k, s, v, l⟩ := e
  have h3' : k = 3 := h3
  subst h3'
  obtain ⟨_, _, ks, hks, hF⟩ := typed_op (by decide) (by decide) hty
  rw [hF] at hty
  obtain ⟨hkl, hke⟩ := typedL_ok hks
  intro a ha h0
  refine ⟨hvi a ha, fun hlg => ?_⟩
  obtain ⟨i, hi, rfl⟩ := List.mem_iff_getElem.1 ha
  have hi' : i < ks.length := by rw [hkl]; exact hi
  have hk := (hke i hi hi').2
  have hka : kAll ks 1 = true := by
    change logicB (opk s) = true at hlg
    revert hlg hty
    cases opk s <;> simp [logicB] <;> intro hty <;> exact (told_ok hty).2.1
  have h1 := List.all_eq_true.1 hka _ (List.getElem_mem hi')
  rcases eval_kind hrow _ (hok _ ha) with ⟨_, h2⟩ | ⟨_, h2⟩
  · exact ofk_all (hk ▸ h2) h1
  · rw [h0] at h2; rcases h2 with h2 | h2 <;> cases h2
set_option maxRecDepth 100000 in
set_option maxHeartbeats 4000000 in
theorem value_value (u cu rv : Value) (t : TabT) (cols : List Clm) (row : List Val) (e : Ex) (S : Nat → Prop) (w : World) (hv : ExR w S u e) (ht : TabR w S cu t cols) (hrow : VaR w S rv row) (hrl : row.length = cols.length) (h1 : e.kind = 1) :
    Calls Try.prog 31 #[tabV cu t, rv, exV u e] w (ValEP (evalF cols row e) w) := by
  obtain ⟨hcl, a1, n1, c1, a2, n2, c2, a3, n3, c3, q1, q2, q3⟩ := ht
  obtain ⟨Ac, cc, rfl, hcc, hcm⟩ := hcl.form
  obtain ⟨nm, key, place, region, v1, v2, v3, elect, commit, survive⟩ := t
  simp only at q1 q2 q3
  subst q1 q2 q3
  obtain ⟨A, c, rfl, hc, hm⟩ := hv.toL.form
  obtain ⟨Ar, cr, rfl, hrc, hrm⟩ := hrow.form
  unfold maxLen at hm hcm hrm
  have Hrl := Lib.hid hrl
  obtain ⟨TC, hTC⟩ : ∃ TC, TC = tabCs (.slice Ac cols.length cc) ⟨nm, key, place, region, .slice a1 n1 c1, .slice a2 n2 c2, .slice a3 n3 c3, elect, commit, survive⟩ := ⟨_, rfl⟩
  have hS0 := (((Same.refl (fun _ => True) w).alloc (.cells TC.toArray 32)).alloc (.cells (exCs (.slice A e.args.length c) e).toArray 26)).alloc (.cells (valCs .zero).toArray 23)
  have hrt := ((Row.new w 32 TC).keep ((Same.refl (fun _ => True) _).alloc (.cells (exCs (.slice A e.args.length c) e).toArray 26)) trivial).keep ((Same.refl (fun _ => True) _).alloc (.cells (valCs .zero).toArray 23)) trivial
  have hre := (Row.new (w.alloc (.cells TC.toArray 32)) 26 (exCs (.slice A e.args.length c) e)).keep ((Same.refl (fun _ => True) _).alloc (.cells (valCs .zero).toArray 23)) trivial
  have hrr := Row.new ((w.alloc (.cells TC.toArray 32)).alloc (.cells (exCs (.slice A e.args.length c) e).toArray 26)) 23 (valCs .zero)
  rw [World.size_alloc] at hre
  rw [World.size_alloc, World.size_alloc, show w.heap.size + 1 + 1 = w.heap.size + 2 from rfl] at hrr
  have HTC := Lib.hid hTC
  have Hcl := Lib.hid hcl
  have Hv := Lib.hid hv.toL
  have Hrow := Lib.hid hrow
  have HK := Lib.hid (evalF_eq cols row e)
  obtain ⟨F, hF⟩ : ∃ F, evalF cols row e = F := ⟨_, rfl⟩
  rw [hF]
  have HF := Lib.hid hF
  obtain ⟨W0, hW0⟩ : ∃ W0, W0 = ((w.alloc (.cells TC.toArray 32)).alloc (.cells (exCs (.slice A e.args.length c) e).toArray 26)).alloc (.cells (valCs .zero).toArray 23) := ⟨_, rfl⟩
  have HW0 := Lib.hid hW0
  rw [← hW0] at hS0 hrt hre hrr
  rw [hTC] at hrt
  have HS := Lib.hid hS0
  have Hrt := Lib.hid hrt
  have Hre := Lib.hid hre
  have Hrr := Lib.hid hrr
  have z0 := hrr.lt
  clear hTC hcl hv hrow hF hW0 hrl
  have E := HF.out.symm.trans (HK.out.trans (if_pos h1))
  have HE := Lib.hid E
  have b1 : (e.kind == 1) = true := by simpa using h1
  clear E h1
  go_enter Try.func31, Try.ntmps31
  go_wp2
  refine bodyPost_ret (v := .tuple #[valV e.v, .int .i64 0]) ?_ rfl (ValEP.mk' HE.out ?_)
  · simp [results, Try.results31, go_sem]
  · exact (((Same.refl _ _).alloc _).alloc _).alloc _
set_option maxRecDepth 100000 in
set_option maxHeartbeats 4000000 in
theorem value_name (u cu rv : Value) (t : TabT) (cols : List Clm) (row : List Val) (e : Ex) (S : Nat → Prop) (w : World) (hv : ExR w S u e) (ht : TabR w S cu t cols) (hrow : VaR w S rv row) (hrl : row.length = cols.length) (h1 : e.kind = 2) (hty : (typedF cols e).2 = 0) :
    Calls Try.prog 31 #[tabV cu t, rv, exV u e] w (ValEP (evalF cols row e) w) := by
  obtain ⟨hcl, a1, n1, c1, a2, n2, c2, a3, n3, c3, q1, q2, q3⟩ := ht
  obtain ⟨Ac, cc, rfl, hcc, hcm⟩ := hcl.form
  obtain ⟨nm, key, place, region, v1, v2, v3, elect, commit, survive⟩ := t
  simp only at q1 q2 q3
  subst q1 q2 q3
  obtain ⟨A, c, rfl, hc, hm⟩ := hv.toL.form
  obtain ⟨Ar, cr, rfl, hrc, hrm⟩ := hrow.form
  unfold maxLen at hm hcm hrm
  have Hrl := Lib.hid hrl
  obtain ⟨TC, hTC⟩ : ∃ TC, TC = tabCs (.slice Ac cols.length cc) ⟨nm, key, place, region, .slice a1 n1 c1, .slice a2 n2 c2, .slice a3 n3 c3, elect, commit, survive⟩ := ⟨_, rfl⟩
  have hS0 := (((Same.refl (fun _ => True) w).alloc (.cells TC.toArray 32)).alloc (.cells (exCs (.slice A e.args.length c) e).toArray 26)).alloc (.cells (valCs .zero).toArray 23)
  have hrt := ((Row.new w 32 TC).keep ((Same.refl (fun _ => True) _).alloc (.cells (exCs (.slice A e.args.length c) e).toArray 26)) trivial).keep ((Same.refl (fun _ => True) _).alloc (.cells (valCs .zero).toArray 23)) trivial
  have hre := (Row.new (w.alloc (.cells TC.toArray 32)) 26 (exCs (.slice A e.args.length c) e)).keep ((Same.refl (fun _ => True) _).alloc (.cells (valCs .zero).toArray 23)) trivial
  have hrr := Row.new ((w.alloc (.cells TC.toArray 32)).alloc (.cells (exCs (.slice A e.args.length c) e).toArray 26)) 23 (valCs .zero)
  rw [World.size_alloc] at hre
  rw [World.size_alloc, World.size_alloc, show w.heap.size + 1 + 1 = w.heap.size + 2 from rfl] at hrr
  have HTC := Lib.hid hTC
  have Hcl := Lib.hid hcl
  have Hv := Lib.hid hv.toL
  have Hrow := Lib.hid hrow
  have HK := Lib.hid (evalF_eq cols row e)
  obtain ⟨F, hF⟩ : ∃ F, evalF cols row e = F := ⟨_, rfl⟩
  rw [hF]
  have HF := Lib.hid hF
  obtain ⟨W0, hW0⟩ : ∃ W0, W0 = ((w.alloc (.cells TC.toArray 32)).alloc (.cells (exCs (.slice A e.args.length c) e).toArray 26)).alloc (.cells (valCs .zero).toArray 23) := ⟨_, rfl⟩
  have HW0 := Lib.hid hW0
  rw [← hW0] at hS0 hrt hre hrr
  rw [hTC] at hrt
  have HS := Lib.hid hS0
  have Hrt := Lib.hid hrt
  have Hre := Lib.hid hre
  have Hrr := Lib.hid hrr
  have z0 := hrr.lt
  clear hTC hcl hv hrow hF hW0 hrl
  have E := HF.out.symm.trans (HK.out.trans (by rw [if_neg (by omega), if_pos h1]))
  have HE := Lib.hid E
  have b1 : (e.kind == 1) = false := by rw [h1]; rfl
  have b2 : (e.kind == 2) = true := by rw [h1]; rfl
  obtain ⟨i, hi⟩ : ∃ i, colF cols e.s = some i := by
    rw [typedF_eq, if_neg (by omega), if_pos h1] at hty
    cases ho : colF cols e.s with
    | none => rw [ho] at hty; cases hty
    | some i => exact ⟨i, rfl⟩
  have gc : ∀ W, Same (fun _ => True) w W → Calls Try.prog 36 #[tabV (.slice Ac cols.length cc) ⟨nm, key, place, region, .slice a1 n1 c1, .slice a2 n2 c2, .slice a3 n3 c3, elect, commit, survive⟩, .string (str e.s)] W (fun e w' => e = .returned (.int .i64 (i : Int)) ∧ Same (fun _ => True) W w') := fun W h => by
    have := refcol_any (.slice Ac cols.length cc) ⟨nm, key, place, region, .slice a1 n1 c1, .slice a2 n2 c2, .slice a3 n3 c3, elect, commit, survive⟩ cols e.s S W (RowR.keepAll Hcl.out h) ⟨a1, n1, c1, a2, n2, c2, a3, n3, c3, rfl, rfl, rfl⟩
    rw [hi] at this
    exact this
  have hil := colF_lt hi
  have hir : i < row.length := by rw [Hrl.out]; exact hil
  have E : F = (row[i], 0) := HE.out.trans (by rw [hi, Option.getD_some, List.getElem?_eq_getElem hir, Option.getD_some])
  have HE := Lib.hid E
  have y1 : (0 : Int) ≤ (i : Int) := by omega
  have y2 : (i : Int) < (row.length : Int) := by omega
  have gc := gc W0 hS0
  have k0 : W0.cell? ⟨w.heap.size + 1, 0, none⟩ = some (.int .i64 e.kind) := hre.cell 0
  have k1 : W0.cell? ⟨w.heap.size + 1, 1, none⟩ = some (.string (str e.s)) := hre.cell 1
  have k2 : W0.cell? ⟨w.heap.size + 1, 2, none⟩ = some (.int .i64 e.v.kind) := hre.cell 2
  have k3 : W0.cell? ⟨w.heap.size + 1, 3, none⟩ = some (.int .i64 e.v.n) := hre.cell 3
  have k4 : W0.cell? ⟨w.heap.size + 1, 4, none⟩ = some (.string (str e.v.s)) := hre.cell 4
  have k5 : W0.cell? ⟨w.heap.size + 1, 5, none⟩ = some (.slice A e.args.length c) := hre.cell 5
  have t0 : W0.cell? ⟨w.heap.size, 0, none⟩ = some (.string (str nm)) := hrt.cell 0
  have t1 : W0.cell? ⟨w.heap.size, 1, none⟩ = some (.slice Ac cols.length cc) := hrt.cell 1
  have t2 : W0.cell? ⟨w.heap.size, 2, none⟩ = some (.int .i64 key) := hrt.cell 2
  have t3 : W0.cell? ⟨w.heap.size, 3, none⟩ = some (.int .i64 place) := hrt.cell 3
  have t4 : W0.cell? ⟨w.heap.size, 4, none⟩ = some (.int .i64 region) := hrt.cell 4
  have t5 : W0.cell? ⟨w.heap.size, 5, none⟩ = some (.slice a1 n1 c1) := hrt.cell 5
  have t6 : W0.cell? ⟨w.heap.size, 6, none⟩ = some (.slice a2 n2 c2) := hrt.cell 6
  have t7 : W0.cell? ⟨w.heap.size, 7, none⟩ = some (.slice a3 n3 c3) := hrt.cell 7
  have t8 : W0.cell? ⟨w.heap.size, 8, none⟩ = some (.int .i64 elect) := hrt.cell 8
  have t9 : W0.cell? ⟨w.heap.size, 9, none⟩ = some (.int .i64 commit) := hrt.cell 9
  have t10 : W0.cell? ⟨w.heap.size, 10, none⟩ = some (.int .i64 survive) := hrt.cell 10
  clear E h1 hi hty hS0 hrt hre hrr
  go_enter Try.func31, Try.ntmps31
  go_wp2_with (go_at_call 36; refine stopAt ?_)
  unfold Hid
  have e0 := HW0.out
  have e1 := HTC.out
  simp only [tabCs] at e1
  simp only [exCs, e1, valCs, Val.zero, str_nil] at e0
  rw [← e0]
  clear e0 e1
  refine gc.mono ?_
  rintro e' w3 ⟨rfl, hS3⟩
  have hrr3 := Hrr.out.keep hS3 trivial
  have r0 : w3.cell? ⟨w.heap.size + 2, 0, none⟩ = some (.int .i64 0) := hrr3.cell 0
  have r1 : w3.cell? ⟨w.heap.size + 2, 1, none⟩ = some (.int .i64 0) := hrr3.cell 1
  have r2 : w3.cell? ⟨w.heap.size + 2, 2, none⟩ = some (.string (str [])) := hrr3.cell 2
  have f0 : w3.frozen? ⟨w.heap.size + 2, 0, none⟩ = false := hrr3.frozen 0
  have f1 : w3.frozen? ⟨w.heap.size + 2, 1, none⟩ = false := hrr3.frozen 1
  have f2 : w3.frozen? ⟨w.heap.size + 2, 2, none⟩ = false := hrr3.frozen 2
  obtain ⟨ad, rfl, -, d0, d1, d2⟩ := VaR.cells (RowR.keepAll Hrow.out (HS.out.trans hS3)) hir
  generalize row[i] = x at *
  have HS3 := Lib.hid hS3
  have Hrr3 := Lib.hid hrr3
  have z1 := hrr3.lt
  clear hS3 hrr3 gc
  go_wp2
  refine bodyPost_ret (refval_results (n := 0) (Hrr3.out.set3 x) rfl rfl) rfl (ValEP.mk' HE.out ?_)
  exact (HS.out.trans HS3.out).set3 (fun h => by omega) _ _ _
set_option maxRecDepth 100000 in
set_option maxHeartbeats 32000000 in
theorem value_ops (u cu rv : Value) (t : TabT) (cols : List Clm) (row : List Val) (e : Ex) (S : Nat → Prop) (w : World) (hv : ExR w S u e) (ht : TabR w S cu t cols) (hrow : VaR w S rv row) (hrl : row.length = cols.length) (h1 : e.kind = 3) (hmr : mayRowB cols row = true) (hsz : e.size ≤ 100000) (hty : (typedF cols e).2 = 0) (hri : ∀ x ∈ row, i64B x.n = true) (hei : ExI e) (ih : ∀ a ∈ e.args, (typedF cols a).2 = 0 → ∀ (u cu rv : Value) (w : World), ExR w S u a → TabR w S cu t cols → VaR w S rv row → Calls Try.prog 31 #[tabV cu t, rv, exV u a] w (ValEP (evalF cols row a) w)) :
    Calls Try.prog 31 #[tabV cu t, rv, exV u e] w (ValEP (evalF cols row e) w) := by
  have hlen : e.args.length ≤ 100000 := by
    obtain ⟨k, s, v, l⟩ := e
    have h2 := sizeL_len l
    simp only [Ex.size] at hsz
    show l.length ≤ 100000
    omega
  obtain ⟨hok, hopn, hopl⟩ : (∀ a ∈ e.args, (typedF cols a).2 = 0) ∧ opk e.s ≠ .none ∧ e.args.length = argsF (opk e.s) := by
    obtain ⟨k, s, v, l⟩ := e
    have h1' : k = 3 := h1
    subst h1'
    obtain ⟨_, _, ks, hks, hF⟩ := typed_op (by decide) (by decide) hty
    rw [hF] at hty
    obtain ⟨hl, hn⟩ := oper_len hty
    obtain ⟨hkl, hke⟩ := typedL_ok hks
    refine ⟨fun a ha => ?_, hn, by show l.length = argsF (opk s); rw [← hl]; exact hkl.symm⟩
    obtain ⟨i, hi, rfl⟩ := List.mem_iff_getElem.1 ha
    exact (hke i hi (by rw [hkl]; exact hi)).1
  have hvi : ∀ a ∈ e.args, i64B (evalF cols row a).1.n = true := fun a ha => eval_i64 hri a (hei.arg a ha)
  have hgd := good_args hmr h1 hty hvi hok
  have Ih := Lib.hid ih
  have Hok := Lib.hid hok
  have Hopn := Lib.hid hopn
  have Hopl := Lib.hid hopl
  have Hgd := Lib.hid hgd
  clear ih hok hopn hopl hvi hri hei hty hsz hgd hmr
  obtain ⟨hcl, a1, n1, c1, a2, n2, c2, a3, n3, c3, q1, q2, q3⟩ := ht
  obtain ⟨Ac, cc, rfl, hcc, hcm⟩ := hcl.form
  obtain ⟨nm, key, place, region, v1, v2, v3, elect, commit, survive⟩ := t
  simp only at q1 q2 q3
  subst q1 q2 q3
  obtain ⟨A, c, rfl, hc, hm⟩ := hv.toL.form
  obtain ⟨Ar, cr, rfl, hrc, hrm⟩ := hrow.form
  unfold maxLen at hm hcm hrm
  have Hrl := Lib.hid hrl
  obtain ⟨TC, hTC⟩ : ∃ TC, TC = tabCs (.slice Ac cols.length cc) ⟨nm, key, place, region, .slice a1 n1 c1, .slice a2 n2 c2, .slice a3 n3 c3, elect, commit, survive⟩ := ⟨_, rfl⟩
  have hS0 := (((Same.refl (fun _ => True) w).alloc (.cells TC.toArray 32)).alloc (.cells (exCs (.slice A e.args.length c) e).toArray 26)).alloc (.cells (valCs .zero).toArray 23)
  have hrt := ((Row.new w 32 TC).keep ((Same.refl (fun _ => True) _).alloc (.cells (exCs (.slice A e.args.length c) e).toArray 26)) trivial).keep ((Same.refl (fun _ => True) _).alloc (.cells (valCs .zero).toArray 23)) trivial
  have hre := (Row.new (w.alloc (.cells TC.toArray 32)) 26 (exCs (.slice A e.args.length c) e)).keep ((Same.refl (fun _ => True) _).alloc (.cells (valCs .zero).toArray 23)) trivial
  have hrr := Row.new ((w.alloc (.cells TC.toArray 32)).alloc (.cells (exCs (.slice A e.args.length c) e).toArray 26)) 23 (valCs .zero)
  rw [World.size_alloc] at hre
  rw [World.size_alloc, World.size_alloc, show w.heap.size + 1 + 1 = w.heap.size + 2 from rfl] at hrr
  have HTC := Lib.hid hTC
  have Hcl := Lib.hid hcl
  have Hv := Lib.hid hv.toL
  have Hrow := Lib.hid hrow
  have HK := Lib.hid (evalF_eq cols row e)
  obtain ⟨F, hF⟩ : ∃ F, evalF cols row e = F := ⟨_, rfl⟩
  rw [hF]
  have HF := Lib.hid hF
  obtain ⟨W0, hW0⟩ : ∃ W0, W0 = ((w.alloc (.cells TC.toArray 32)).alloc (.cells (exCs (.slice A e.args.length c) e).toArray 26)).alloc (.cells (valCs .zero).toArray 23) := ⟨_, rfl⟩
  have HW0 := Lib.hid hW0
  rw [← hW0] at hS0 hrt hre hrr
  rw [hTC] at hrt
  have HS := Lib.hid hS0
  have Hrt := Lib.hid hrt
  have Hre := Lib.hid hre
  have Hrr := Lib.hid hrr
  have z0 := hrr.lt
  clear hTC hcl hv hrow hF hW0 hrl
  have E := HF.out.symm.trans (HK.out.trans (by rw [if_neg (by omega), if_neg (by omega)]))
  have HE := Lib.hid E
  have b1 : (e.kind == 1) = false := by rw [h1]; rfl
  have b2 : (e.kind == 2) = false := by rw [h1]; rfl
  clear E h1
  go_enter Try.func31, Try.ntmps31
  go_wp2
  have e0 := HW0.out
  have e1 := HTC.out
  simp only [tabCs] at e1
  simp only [exCs, e1, valCs, Val.zero, str_nil] at e0
  rw [← e0]
  clear e0 e1
  clear hS0 hrt hre hrr
  go_loopw [8, 9, 10, 11, 12] (fun v nb i _ _ wr => ∃ (j : Nat) (vs : List Val) (NB : Bool), j ≤ e.args.length ∧ i = .int .i64 j ∧ nb = .bool NB ∧ NB = vs.any nullV ∧ vs.length = j ∧ OwnVa wr W0.heap.size v vs ∧ (∀ x ∈ vs, GoodV (opk e.s) x) ∧ F = evR cols row e.s (e.args.drop j) vs ∧ Same (fun _ => True) W0 wr) (fun _ _ i _ _ _ => e.args.length - (intOf i).toNat)
  case atStart => exact ⟨0, [], false, Nat.zero_le _, rfl, rfl, rfl, rfl, OwnR.nil _ _, (fun x hx => by cases hx), HE.out, Same.refl _ _⟩
  case round =>
    obtain ⟨j, vs, NB, hj, rfl, rfl, hnb, hkl, hown, hvs, hrel, hS⟩ := hrel
    have Hrel := Lib.hid hrel
    have Hown := Lib.hid hown
    have Hvs := Lib.hid hvs
    have HSr := Lib.hid hS
    have Hkl := Lib.hid hkl
    have Hnb := Lib.hid hnb
    have hrt := Hrt.out.keep hS trivial
    have hre := Hre.out.keep hS trivial
    have hrr := Hrr.out.keep hS trivial
    obtain ⟨Ak, ck, rfl, hk1, hk2⟩ := hown.form
    have Hob := Lib.hid (fun (k : Nat) => hown.lt_ (k := k))
    have hkj : vs.length ≤ 100000 := by omega
    unfold maxLen at hk2
    clear hrel hown hkl hvs hnb
    by_cases hlt : j < e.args.length
    · obtain ⟨ad, uj, rfl, -, hvj, d0, d1, d2, d3, d4, d5⟩ := ExL.cells (Hv.out.keepAll (HS.out.trans hS)) hlt
      have hd := evR_step (cols := cols) (row := row) (s := e.s) (vs := vs) hlt
      have ihj := fun (W : World) (h1 : ExR W S uj (e.args[j]'hlt)) h2 h3 => Ih.out (e.args[j]'hlt) (List.getElem_mem hlt) (Hok.out _ (List.getElem_mem hlt)) uj (.slice Ac cols.length cc) (.slice Ar row.length cr) W h1 h2 h3
      have hxg := Hgd.out _ (List.getElem_mem hlt)
      have x3 : (0 : Int) ≤ (j : Int) := by omega
      have x4 : (j : Int) < (e.args.length : Int) := by omega
      have htj : TabR wr S (.slice Ac cols.length cc) ⟨nm, key, place, region, .slice a1 n1 c1, .slice a2 n2 c2, .slice a3 n3 c3, elect, commit, survive⟩ cols := ⟨RowR.keepAll Hcl.out (HS.out.trans hS), a1, n1, c1, a2, n2, c2, a3, n3, c3, rfl, rfl, rfl⟩
      have hrj : VaR wr S (.slice Ar row.length cr) row := RowR.keepAll Hrow.out (HS.out.trans hS)
      generalize e.args[j] = x at *
      have hvj : ExR wr S uj x := (ExR.iff uj x).2 hvj
      obtain ⟨Au, cu, rfl, -, -⟩ := hvj.toL.form
      have Hvj := Lib.hid hvj
      have Htj := Lib.hid htj
      have Hrj := Lib.hid hrj
      have hab := World.block_lt_of_cell? wr _ d0
      have t0 : wr.cell? ⟨w.heap.size, 0, none⟩ = some (.string (str nm)) := hrt.cell 0
      have t1 : wr.cell? ⟨w.heap.size, 1, none⟩ = some (.slice Ac cols.length cc) := hrt.cell 1
      have t2 : wr.cell? ⟨w.heap.size, 2, none⟩ = some (.int .i64 key) := hrt.cell 2
      have t3 : wr.cell? ⟨w.heap.size, 3, none⟩ = some (.int .i64 place) := hrt.cell 3
      have t4 : wr.cell? ⟨w.heap.size, 4, none⟩ = some (.int .i64 region) := hrt.cell 4
      have t5 : wr.cell? ⟨w.heap.size, 5, none⟩ = some (.slice a1 n1 c1) := hrt.cell 5
      have t6 : wr.cell? ⟨w.heap.size, 6, none⟩ = some (.slice a2 n2 c2) := hrt.cell 6
      have t7 : wr.cell? ⟨w.heap.size, 7, none⟩ = some (.slice a3 n3 c3) := hrt.cell 7
      have t8 : wr.cell? ⟨w.heap.size, 8, none⟩ = some (.int .i64 elect) := hrt.cell 8
      have t9 : wr.cell? ⟨w.heap.size, 9, none⟩ = some (.int .i64 commit) := hrt.cell 9
      have t10 : wr.cell? ⟨w.heap.size, 10, none⟩ = some (.int .i64 survive) := hrt.cell 10
      have k5 : wr.cell? ⟨w.heap.size + 1, 5, none⟩ = some (.slice (some ad) e.args.length c) := hre.cell 5
      have z1 := hrr.lt
      obtain ⟨R, hR⟩ : ∃ R, evalF cols row x = R := ⟨_, rfl⟩
      rw [hR] at ihj hd hxg
      have Hd := Lib.hid hd
      have Hxg := Lib.hid hxg
      clear hd hvj hR hS hrt hre hrr htj hrj hxg
      go_upto_region 10 with (fail)
      go_cut [11, 12] from 36 to 46 (fun vA vB wx => ∃ (wx' : World) (g : Nat), wx' = wx ∧ vA = .pointer (some ⟨g, 0, none⟩) ∧ vB = .int .i64 R.2 ∧ wr.heap.size ≤ g ∧ Row wx' g 23 (valCs R.1) ∧ Same (fun _ => True) wr wx')
      case first =>
        refine wp_region_tail_d (L := [.eq (tabV (.slice Ac cols.length cc) ⟨nm, key, place, region, .slice a1 n1 c1, .slice a2 n2 c2, .slice a3 n3 c3, elect, commit, survive⟩), .eq (.slice Ar row.length cr), .eq (.pointer (some ⟨w.heap.size + 1, 5, none⟩)), .eq (.slice (some ad) e.args.length c), .eq (.int .i64 j), .eq (.pointer (some (ad.add (j * 6)))), .eq (exV (.slice Au x.args.length cu) x), .eq (.tuple #[valV R.1, .int .i64 R.2]), .eq (.tuple #[valV R.1, .int .i64 R.2]), .eq (valV R.1), .eq (.int .i64 R.2), .of (.fresh wr.heap.size 23 (valCs .zero))]) 12 10 (by omega) (by kernel_rfl) (by kernel_rfl) rfl rfl rfl rfl rfl rfl ?_ ?_ ?_
        · refine ⟨?_, ?_, ?_, ?_, ?_, ?_, ?_, ?_, ?_, ?_, ?_, ?_, trivial⟩
          · intro ac wc hs hd hz hf hw K hK
            have e0 : ac.eval (.tmp 3) = (.pointer (some ⟨w.heap.size, 0, none⟩)) := hf 3 rfl
            have m0 : wc.cell? ⟨w.heap.size, 0, none⟩ = some (.string (str nm)) := hs.cell (p := ⟨w.heap.size, 0, none⟩) trivial t0
            have m1 : wc.cell? ⟨w.heap.size, 1, none⟩ = some (.slice Ac cols.length cc) := hs.cell (p := ⟨w.heap.size, 1, none⟩) trivial t1
            have m2 : wc.cell? ⟨w.heap.size, 2, none⟩ = some (.int .i64 key) := hs.cell (p := ⟨w.heap.size, 2, none⟩) trivial t2
            have m3 : wc.cell? ⟨w.heap.size, 3, none⟩ = some (.int .i64 place) := hs.cell (p := ⟨w.heap.size, 3, none⟩) trivial t3
            have m4 : wc.cell? ⟨w.heap.size, 4, none⟩ = some (.int .i64 region) := hs.cell (p := ⟨w.heap.size, 4, none⟩) trivial t4
            have m5 : wc.cell? ⟨w.heap.size, 5, none⟩ = some (.slice a1 n1 c1) := hs.cell (p := ⟨w.heap.size, 5, none⟩) trivial t5
            have m6 : wc.cell? ⟨w.heap.size, 6, none⟩ = some (.slice a2 n2 c2) := hs.cell (p := ⟨w.heap.size, 6, none⟩) trivial t6
            have m7 : wc.cell? ⟨w.heap.size, 7, none⟩ = some (.slice a3 n3 c3) := hs.cell (p := ⟨w.heap.size, 7, none⟩) trivial t7
            have m8 : wc.cell? ⟨w.heap.size, 8, none⟩ = some (.int .i64 elect) := hs.cell (p := ⟨w.heap.size, 8, none⟩) trivial t8
            have m9 : wc.cell? ⟨w.heap.size, 9, none⟩ = some (.int .i64 commit) := hs.cell (p := ⟨w.heap.size, 9, none⟩) trivial t9
            have m10 : wc.cell? ⟨w.heap.size, 10, none⟩ = some (.int .i64 survive) := hs.cell (p := ⟨w.heap.size, 10, none⟩) trivial t10
            clear hd hz hf hw
            simp only [Region.wanted, if_true, Oper.wp, execOp, resolve, List.map_toArray, List.map_cons, List.map_nil, Option.map_some, Option.map_none, e0]
            go_simp
            exact hK _ _ rfl (Same.refl _ _)
          · intro ac wc hs hd hz hf hw K hK
            have e0 : ac.eval (.tmp 1) = (.slice Ar row.length cr) := hf 1 rfl
            clear hd hz hf hw
            simp only [Region.wanted, if_true, Oper.wp, execOp, resolve, List.map_toArray, List.map_cons, List.map_nil, Option.map_some, Option.map_none, e0]
            go_simp
            exact hK _ _ rfl (Same.refl _ _)
          · intro ac wc hs hd hz hf hw K hK
            have e0 : ac.eval (.tmp 5) = (.pointer (some ⟨w.heap.size + 1, 0, none⟩)) := hf 5 rfl
            clear hd hz hf hw
            simp only [Region.wanted, if_true, Oper.wp, execOp, resolve, List.map_toArray, List.map_cons, List.map_nil, Option.map_some, Option.map_none, e0]
            go_simp
            exact hK _ _ rfl (Same.refl _ _)
          · intro ac wc hs hd hz hf hw K hK
            have e0 : ac.eval (.tmp 39) = (.pointer (some ⟨w.heap.size + 1, 5, none⟩)) := hw 2 rfl
            have m0 : wc.cell? ⟨w.heap.size + 1, 5, none⟩ = some (.slice (some ad) e.args.length c) := hs.cell (p := ⟨w.heap.size + 1, 5, none⟩) trivial k5
            clear hd hz hf hw
            simp only [Region.wanted, if_true, Oper.wp, execOp, resolve, List.map_toArray, List.map_cons, List.map_nil, Option.map_some, Option.map_none, e0]
            go_simp
            exact hK _ _ rfl (Same.refl _ _)
          · intro ac wc hs hd hz hf hw K hK
            have e0 : ac.eval (.tmp 10) = (.int .i64 j) := hf 10 rfl
            clear hd hz hf hw
            simp only [Region.wanted, if_true, Oper.wp, execOp, resolve, List.map_toArray, List.map_cons, List.map_nil, Option.map_some, Option.map_none, e0]
            go_simp
            exact hK _ _ rfl (Same.refl _ _)
          · intro ac wc hs hd hz hf hw K hK
            have e0 : ac.eval (.tmp 40) = (.slice (some ad) e.args.length c) := hw 3 rfl
            have e1 : ac.eval (.tmp 41) = (.int .i64 j) := hw 4 rfl
            clear hd hz hf hw
            simp only [Region.wanted, if_true, Oper.wp, execOp, resolve, List.map_toArray, List.map_cons, List.map_nil, Option.map_some, Option.map_none, e0, e1]
            go_simp
            exact hK _ _ rfl (Same.refl _ _)
          · intro ac wc hs hd hz hf hw K hK
            have e0 : ac.eval (.tmp 42) = (.pointer (some (ad.add (j * 6)))) := hw 5 rfl
            have m0 : wc.cell? (ad.add (j * 6)) = some (.int .i64 x.kind) := hs.cell (p := (ad.add (j * 6))) trivial d0
            have m1 : wc.cell? ⟨(ad.add (j * 6)).block, (ad.add (j * 6)).off + 1, none⟩ = some (.string (str x.s)) := hs.cell (p := ⟨(ad.add (j * 6)).block, (ad.add (j * 6)).off + 1, none⟩) trivial d1
            have m2 : wc.cell? ⟨(ad.add (j * 6)).block, (ad.add (j * 6)).off + 2, none⟩ = some (.int .i64 x.v.kind) := hs.cell (p := ⟨(ad.add (j * 6)).block, (ad.add (j * 6)).off + 2, none⟩) trivial d2
            have m3 : wc.cell? ⟨(ad.add (j * 6)).block, (ad.add (j * 6)).off + 3, none⟩ = some (.int .i64 x.v.n) := hs.cell (p := ⟨(ad.add (j * 6)).block, (ad.add (j * 6)).off + 3, none⟩) trivial d3
            have m4 : wc.cell? ⟨(ad.add (j * 6)).block, (ad.add (j * 6)).off + 4, none⟩ = some (.string (str x.v.s)) := hs.cell (p := ⟨(ad.add (j * 6)).block, (ad.add (j * 6)).off + 4, none⟩) trivial d4
            have m5 : wc.cell? ⟨(ad.add (j * 6)).block, (ad.add (j * 6)).off + 5, none⟩ = some (.slice Au x.args.length cu) := hs.cell (p := ⟨(ad.add (j * 6)).block, (ad.add (j * 6)).off + 5, none⟩) trivial d5
            clear hd hz hf hw
            simp only [Region.wanted, if_true, Oper.wp, execOp, resolve, List.map_toArray, List.map_cons, List.map_nil, Option.map_some, Option.map_none, e0]
            go_simp
            exact hK _ _ rfl (Same.refl _ _)
          · intro ac wc hs hd hz hf hw K hK
            have e0 : ac.eval (.tmp 37) = (tabV (.slice Ac cols.length cc) ⟨nm, key, place, region, .slice a1 n1 c1, .slice a2 n2 c2, .slice a3 n3 c3, elect, commit, survive⟩) := hw 0 rfl
            have e1 : ac.eval (.tmp 38) = (.slice Ar row.length cr) := hw 1 rfl
            have e2 : ac.eval (.tmp 43) = (exV (.slice Au x.args.length cu) x) := hw 6 rfl
            clear hd hz hf hw
            simp only [Region.wanted, if_true, Oper.wp, execOp, resolve, List.map_toArray, List.map_cons, List.map_nil, Option.map_some, Option.map_none, e0, e1, e2]
            go_simp
            refine (ihj wc (Hvj.out.keepAll hs) (Htj.out.keepAll hs) (RowR.keepAll Hrj.out hs)).mono ?_
            rintro e wd ⟨rfl, hs2⟩
            exact hK _ _ rfl hs2
          · intro ac wc hs hd hz hf hw K hK
            have e0 : ac.eval (.tmp 44) = (.tuple #[valV R.1, .int .i64 R.2]) := hw 7 rfl
            clear hd hz hf hw
            simp only [Region.wanted, if_true, Oper.wp, execOp, resolve, List.map_toArray, List.map_cons, List.map_nil, Option.map_some, Option.map_none, e0]
            go_simp
            exact hK _ _ rfl (Same.refl _ _)
          · intro ac wc hs hd hz hf hw K hK
            have e0 : ac.eval (.tmp 36) = (.tuple #[valV R.1, .int .i64 R.2]) := hw 8 rfl
            clear hd hz hf hw
            simp only [Region.wanted, if_true, Oper.wp, execOp, resolve, List.map_toArray, List.map_cons, List.map_nil, Option.map_some, Option.map_none, e0]
            go_simp
            exact hK _ _ rfl (Same.refl _ _)
          · intro ac wc hs hd hz hf hw K hK
            have e0 : ac.eval (.tmp 36) = (.tuple #[valV R.1, .int .i64 R.2]) := hw 8 rfl
            clear hd hz hf hw
            simp only [Region.wanted, if_true, Oper.wp, execOp, resolve, List.map_toArray, List.map_cons, List.map_nil, Option.map_some, Option.map_none, e0]
            go_simp
            exact hK _ _ rfl (Same.refl _ _)
          · intro ac wc hs hd hz hf hw K hK
            clear hd hz hf hw
            simp only [Region.wanted, if_true, Oper.wp, execOp, resolve, List.map_toArray, List.map_cons, List.map_nil, Option.map_some, Option.map_none]
            go_simp
            exact hK _ _ ⟨_, rfl, hs.size, Row.new wc _ (valCs .zero)⟩ ((Same.refl _ _).alloc _)
        · intro vs wR hvl hvp hsR
          rcases vs with _ | ⟨z0, _ | ⟨z1, _ | ⟨z2, _ | ⟨z3, _ | ⟨z4, _ | ⟨z5, _ | ⟨z6, _ | ⟨z7, _ | ⟨z8, _ | ⟨z9, _ | ⟨z10, _ | ⟨z11, _ | ⟨zz, zr⟩⟩⟩⟩⟩⟩⟩⟩⟩⟩⟩⟩⟩
          rotate_right 1
          · simp at hvl
          · simp at hvl
          · simp at hvl
          · simp at hvl
          · simp at hvl
          · simp at hvl
          · simp at hvl
          · simp at hvl
          · simp at hvl
          · simp at hvl
          · simp at hvl
          · simp at hvl
          · simp at hvl
          · obtain rfl : z0 = (tabV (.slice Ac cols.length cc) ⟨nm, key, place, region, .slice a1 n1 c1, .slice a2 n2 c2, .slice a3 n3 c3, elect, commit, survive⟩) := hvp 0 (by omega)
            obtain rfl : z1 = (.slice Ar row.length cr) := hvp 1 (by omega)
            obtain rfl : z2 = (.pointer (some ⟨w.heap.size + 1, 5, none⟩)) := hvp 2 (by omega)
            obtain rfl : z3 = (.slice (some ad) e.args.length c) := hvp 3 (by omega)
            obtain rfl : z4 = (.int .i64 j) := hvp 4 (by omega)
            obtain rfl : z5 = (.pointer (some (ad.add (j * 6)))) := hvp 5 (by omega)
            obtain rfl : z6 = (exV (.slice Au x.args.length cu) x) := hvp 6 (by omega)
            obtain rfl : z7 = (.tuple #[valV R.1, .int .i64 R.2]) := hvp 7 (by omega)
            obtain rfl : z8 = (.tuple #[valV R.1, .int .i64 R.2]) := hvp 8 (by omega)
            obtain rfl : z9 = (valV R.1) := hvp 9 (by omega)
            obtain rfl : z10 = (.int .i64 R.2) := hvp 10 (by omega)
            have hfr : ((.fresh wr.heap.size 23 (valCs .zero)) : SP).p z11 wR := hvp 11 (by omega)
            clear hvl hvp
            simp only [putAll, Act.put, List.setIfInBounds_toArray, List.set_cons_succ, List.set_cons_zero, List.take_succ_cons, List.take_zero, List.drop_succ_cons, List.drop_zero, List.eraseIdx_cons_succ, List.eraseIdx_cons_zero]
            obtain ⟨g, rfl, hg, hrg⟩ := hfr
            have y0 : wR.cell? ⟨g, 0, none⟩ = some (.int .i64 0) := hrg.cell 0
            have y1 : wR.cell? ⟨g, 1, none⟩ = some (.int .i64 0) := hrg.cell 1
            have y2 : wR.cell? ⟨g, 2, none⟩ = some (.string (str [])) := hrg.cell 2
            have x0 : wR.frozen? ⟨g, 0, none⟩ = false := hrg.frozen 0
            have x1 : wR.frozen? ⟨g, 1, none⟩ = false := hrg.frozen 1
            have x2 : wR.frozen? ⟨g, 2, none⟩ = false := hrg.frozen 2
            have Hrg := Lib.hid hrg
            have HsR := Lib.hid hsR
            have zG := hrg.lt
            clear hsR hrg
            go_wp2
            go_meet
            exact ⟨_, g, rfl, rfl, rfl, hg, Hrg.out.set3 _, HsR.out.set3 (fun h => by omega) _ _ _⟩
        · intro vs wR hvl hvp hsR
          rcases vs with _ | ⟨z0, _ | ⟨z1, _ | ⟨z2, _ | ⟨z3, _ | ⟨z4, _ | ⟨z5, _ | ⟨z6, _ | ⟨z7, _ | ⟨z8, _ | ⟨z9, _ | ⟨z11, _ | ⟨zz, zr⟩⟩⟩⟩⟩⟩⟩⟩⟩⟩⟩⟩
          rotate_right 1
          · simp at hvl
          · simp at hvl
          · simp at hvl
          · simp at hvl
          · simp at hvl
          · simp at hvl
          · simp at hvl
          · simp at hvl
          · simp at hvl
          · simp at hvl
          · simp at hvl
          · simp at hvl
          · obtain rfl : z0 = (tabV (.slice Ac cols.length cc) ⟨nm, key, place, region, .slice a1 n1 c1, .slice a2 n2 c2, .slice a3 n3 c3, elect, commit, survive⟩) := hvp 0 (by omega)
            obtain rfl : z1 = (.slice Ar row.length cr) := hvp 1 (by omega)
            obtain rfl : z2 = (.pointer (some ⟨w.heap.size + 1, 5, none⟩)) := hvp 2 (by omega)
            obtain rfl : z3 = (.slice (some ad) e.args.length c) := hvp 3 (by omega)
            obtain rfl : z4 = (.int .i64 j) := hvp 4 (by omega)
            obtain rfl : z5 = (.pointer (some (ad.add (j * 6)))) := hvp 5 (by omega)
            obtain rfl : z6 = (exV (.slice Au x.args.length cu) x) := hvp 6 (by omega)
            obtain rfl : z7 = (.tuple #[valV R.1, .int .i64 R.2]) := hvp 7 (by omega)
            obtain rfl : z8 = (.tuple #[valV R.1, .int .i64 R.2]) := hvp 8 (by omega)
            obtain rfl : z9 = (valV R.1) := hvp 9 (by omega)
            have hfr : ((.fresh wr.heap.size 23 (valCs .zero)) : SP).p z11 wR := hvp 10 (by omega)
            clear hvl hvp
            simp only [putAll, Act.put, List.setIfInBounds_toArray, List.set_cons_succ, List.set_cons_zero, List.take_succ_cons, List.take_zero, List.drop_succ_cons, List.drop_zero, List.eraseIdx_cons_succ, List.eraseIdx_cons_zero]
            obtain ⟨g, rfl, hg, hrg⟩ := hfr
            have y0 : wR.cell? ⟨g, 0, none⟩ = some (.int .i64 0) := hrg.cell 0
            have y1 : wR.cell? ⟨g, 1, none⟩ = some (.int .i64 0) := hrg.cell 1
            have y2 : wR.cell? ⟨g, 2, none⟩ = some (.string (str [])) := hrg.cell 2
            have x0 : wR.frozen? ⟨g, 0, none⟩ = false := hrg.frozen 0
            have x1 : wR.frozen? ⟨g, 1, none⟩ = false := hrg.frozen 1
            have x2 : wR.frozen? ⟨g, 2, none⟩ = false := hrg.frozen 2
            have Hrg := Lib.hid hrg
            have HsR := Lib.hid hsR
            have zG := hrg.lt
            clear hsR hrg
            go_wp2
            go_meet
            exact ⟨_, g, rfl, rfl, rfl, hg, Hrg.out.set3 _, HsR.out.set3 (fun h => by omega) _ _ _⟩
      case rest =>
        obtain ⟨wy, g, rfl, rfl, rfl, hg, hrg, hSg⟩ := hcut
        have hrr3 := Hrr.out.keep (HSr.out.trans hSg) trivial
        have y0 : wy.cell? ⟨g, 0, none⟩ = some (.int .i64 R.1.kind) := hrg.cell 0
        have y1 : wy.cell? ⟨g, 1, none⟩ = some (.int .i64 R.1.n) := hrg.cell 1
        have y2 : wy.cell? ⟨g, 2, none⟩ = some (.string (str R.1.s)) := hrg.cell 2
        have r0 : wy.cell? ⟨w.heap.size + 2, 0, none⟩ = some (.int .i64 0) := hrr3.cell 0
        have r1 : wy.cell? ⟨w.heap.size + 2, 1, none⟩ = some (.int .i64 0) := hrr3.cell 1
        have r2 : wy.cell? ⟨w.heap.size + 2, 2, none⟩ = some (.string (str [])) := hrr3.cell 2
        have f0 : wy.frozen? ⟨w.heap.size + 2, 0, none⟩ = false := hrr3.frozen 0
        have f1 : wy.frozen? ⟨w.heap.size + 2, 1, none⟩ = false := hrr3.frozen 1
        have f2 : wy.frozen? ⟨w.heap.size + 2, 2, none⟩ = false := hrr3.frozen 2
        have z2 := hrr3.lt
        have zg := hrg.lt
        have Hrr3 := Lib.hid hrr3
        have HSg := Lib.hid hSg
        have Hrg := Lib.hid hrg
        clear hSg ihj t0 t1 t2 t3 t4 t5 t6 t7 t8 t9 t10 d0 d1 d2 d3 d4 d5 hab k5 hrr3 hrg
        obtain ⟨rk, re⟩ := R
        by_cases h0 : re = 0
        · have b4 : (re != 0) = false := by simpa using h0
          have K := Hrel.out.trans (Hd.out.trans (if_neg (by simpa using h0)))
          have HKK := Lib.hid K
          have Hx0 : Hid (GoodV (opk e.s) rk) := Lib.hid (Hxg.out h0)
          clear K h0 r0 r1 r2 f0 f1 f2
          go_wp2_with (at_builtin; refine stopAt ?_)
          unfold Hid
          have hown3 := Hown.out.keepAll HSg.out
          refine wpList_appR1o TVal valCs_len valCs_one rfl (.tmp 51) (.tmp 53) rfl (f := valCs) (B := W0.heap.size) (v := .slice Ak vs.length ck) (l := vs) (c := rk) rfl rfl rfl hown3 (Nat.le_trans HSr.out.size HSg.out.size) (by simp only [maxLen]; omega) (by omega) ?_
          intro v' w4 hown4 hS4
          have hS4g : w4.cell? ⟨g, 0, none⟩ = some (.int .i64 rk.kind) := (Hrg.out.keep hS4 (fun h => by have := (Hob.out g h.symm).2; omega)).cell 0
          have y0 := hS4g
          have zg4 := Nat.lt_of_lt_of_le zg hS4.size
          have Hown4 := Lib.hid hown4
          have HS4 := Lib.hid hS4
          clear hown4 hS4 hown3 hS4g y1 y2
          have hna := any_app vs rk
          rw [← Hnb.out] at hna
          have q0 : (rk.kind == 0) = nullV rk := by unfold nullV; rfl
          obtain ⟨KB, hKB⟩ : ∃ KB, nullV rk = KB := ⟨_, rfl⟩
          rw [hKB] at hna q0
          have Hna := Lib.hid hna
          clear hna hKB
          cases NB <;> cases KB
          all_goals
            go_wp2
            go_roundw
            case rel =>
              refine ⟨j + 1, vs ++ [rk], _, by omega, by go_num, rfl, by rw [Hna.out]; rfl, by simp [Hkl.out], Hown4.out, fun y hy => ?_, HKK.out, ?_⟩
              · rcases List.mem_append.1 hy with hy | hy
                · exact Hvs.out y hy
                · simp only [List.mem_cons, List.not_mem_nil, or_false] at hy
                  rw [hy]; exact Hx0.out
              · exact (HSr.out.trans HSg.out).trans' HS4.out fun i hi _ h => by have := (Hob.out i h.symm).1; omega
            case measure => simp [intOf]; omega
        · have b4 : (re != 0) = true := by simpa using h0
          have K := Hrel.out.trans (Hd.out.trans (if_pos (by simpa using h0)))
          have HKK := Lib.hid K
          have z3 := HSr.out.size
          have z4 := HSg.out.size
          clear K h0 y0 y1 y2
          go_wp2
          refine bodyPost_ret (refval_results (n := re) (Hrr3.out.set3 .zero) rfl rfl) rfl (ValEP.mk' HKK.out ?_)
          exact (HS.out.trans (HSr.out.trans HSg.out)).set3 (fun h => by omega) _ _ _
    · have K := Hrel.out.trans (by rw [List.drop_of_length_le (by omega), evR_end])
      have x9 : (e.args.length : Int) ≤ (j : Int) := by omega
      have k0 : wr.cell? ⟨w.heap.size + 1, 0, none⟩ = some (.int .i64 e.kind) := hre.cell 0
      have k1 : wr.cell? ⟨w.heap.size + 1, 1, none⟩ = some (.string (str e.s)) := hre.cell 1
      have k2 : wr.cell? ⟨w.heap.size + 1, 2, none⟩ = some (.int .i64 e.v.kind) := hre.cell 2
      have k3 : wr.cell? ⟨w.heap.size + 1, 3, none⟩ = some (.int .i64 e.v.n) := hre.cell 3
      have k4 : wr.cell? ⟨w.heap.size + 1, 4, none⟩ = some (.string (str e.v.s)) := hre.cell 4
      have k5 : wr.cell? ⟨w.heap.size + 1, 5, none⟩ = some (.slice A e.args.length c) := hre.cell 5
      have z1 := hre.lt
      have hl2 : vs.length = argsF (opk e.s) := by rw [← Hopl.out, Hkl.out]; omega
      have hgo := Hvs.out
      have hnb := Hnb.out
      have Hrr9 := Lib.hid hrr
      have HSr9 := Lib.hid (HS.out.trans HSr.out)
      clear hre hrt hrr hS k0 k2 k3 k4
      rcases op_cases e.s with hs | hs | hs | hs | hs | hs | hs | hs | hs | hs | hs | hs | hs | hs | hs | hs | hs | hn
      rotate_right 1
      · exact absurd (opk_none hn) Hopn.out
      · rw [hs] at k1 K hl2 hgo
        obtain ⟨a, rfl⟩ : ∃ a, vs = [a] := by
          match vs, hl2 with
          | [a], _ => exact ⟨a, rfl⟩
        have hga := hgo a (by simp)
        have hNB : NB = decide (a.kind = 0) := by rw [hnb]; simp [nullV]
        have Hga := Lib.hid hga
        have HK9 : Hid (F = doesF (opk [73, 83, 78, 85, 76, 76]) [a]) := Lib.hid K
        have HNB := Lib.hid hNB
        have hvv := Hown.out.inr
        obtain ⟨ad, rfl, -, d0, d1, d2⟩ := VaR.one hvv
        have hab := World.block_lt_of_cell? wr _ d0
        have Hvv := Lib.hid hvv
        clear K hs hl2 hgo hga hnb hNB hvv
        go_wp2_with (go_at_call 39; refine stopAt ?_)
        unfold Hid
        refine (reftruth_any _ _).mono ?_
        rintro e' w2 ⟨rfl, hS2⟩
        clear d0 d1 d2 hab
        have hSz := hS2
        have hrrz := Hrr9.out.keep hSz trivial
        have r0 : w2.cell? ⟨w.heap.size + 2, 0, none⟩ = some (.int .i64 0) := hrrz.cell 0
        have r1 : w2.cell? ⟨w.heap.size + 2, 1, none⟩ = some (.int .i64 0) := hrrz.cell 1
        have r2 : w2.cell? ⟨w.heap.size + 2, 2, none⟩ = some (.string (str [])) := hrrz.cell 2
        have f0 : w2.frozen? ⟨w.heap.size + 2, 0, none⟩ = false := hrrz.frozen 0
        have f1 : w2.frozen? ⟨w.heap.size + 2, 1, none⟩ = false := hrrz.frozen 1
        have f2 : w2.frozen? ⟨w.heap.size + 2, 2, none⟩ = false := hrrz.frozen 2
        have zz := hrrz.lt
        have Hrrz := Lib.hid hrrz
        have HSz := Lib.hid hSz
        clear hrrz hSz
        go_wp2
        refine bodyPost_ret (refval_results (n := 0) (Hrrz.out.set3 (truthV _)) rfl rfl) rfl (ValEP.mk' (by rw [HK9.out, HNB.out]; simp [doesF, opk]) ?_)
        exact (HSr9.out.trans HSz.out).set3 (fun h => by omega) _ _ _
      · rw [hs] at k1 K hl2 hgo
        obtain ⟨a, rfl⟩ : ∃ a, vs = [a] := by
          match vs, hl2 with
          | [a], _ => exact ⟨a, rfl⟩
        have hga := hgo a (by simp)
        have hNB : NB = decide (a.kind = 0) := by rw [hnb]; simp [nullV]
        have Hga := Lib.hid hga
        have HK9 : Hid (F = doesF (opk [78, 79, 84, 78, 85, 76, 76]) [a]) := Lib.hid K
        have HNB := Lib.hid hNB
        have hvv := Hown.out.inr
        obtain ⟨ad, rfl, -, d0, d1, d2⟩ := VaR.one hvv
        have hab := World.block_lt_of_cell? wr _ d0
        have Hvv := Lib.hid hvv
        clear K hs hl2 hgo hga hnb hNB hvv
        go_wp2_with (go_at_call 39; refine stopAt ?_)
        unfold Hid
        refine (reftruth_any _ _).mono ?_
        rintro e' w2 ⟨rfl, hS2⟩
        clear d0 d1 d2 hab
        have hSz := hS2
        have hrrz := Hrr9.out.keep hSz trivial
        have r0 : w2.cell? ⟨w.heap.size + 2, 0, none⟩ = some (.int .i64 0) := hrrz.cell 0
        have r1 : w2.cell? ⟨w.heap.size + 2, 1, none⟩ = some (.int .i64 0) := hrrz.cell 1
        have r2 : w2.cell? ⟨w.heap.size + 2, 2, none⟩ = some (.string (str [])) := hrrz.cell 2
        have f0 : w2.frozen? ⟨w.heap.size + 2, 0, none⟩ = false := hrrz.frozen 0
        have f1 : w2.frozen? ⟨w.heap.size + 2, 1, none⟩ = false := hrrz.frozen 1
        have f2 : w2.frozen? ⟨w.heap.size + 2, 2, none⟩ = false := hrrz.frozen 2
        have zz := hrrz.lt
        have Hrrz := Lib.hid hrrz
        have HSz := Lib.hid hSz
        clear hrrz hSz
        go_wp2
        refine bodyPost_ret (refval_results (n := 0) (Hrrz.out.set3 (truthV _)) rfl rfl) rfl (ValEP.mk' (by rw [HK9.out, HNB.out]; simp [doesF, opk]) ?_)
        exact (HSr9.out.trans HSz.out).set3 (fun h => by omega) _ _ _
      · rw [hs] at k1 K hl2 hgo
        obtain ⟨a, rfl⟩ : ∃ a, vs = [a] := by
          match vs, hl2 with
          | [a], _ => exact ⟨a, rfl⟩
        have hga := hgo a (by simp)
        have hNB : NB = decide (a.kind = 0) := by rw [hnb]; simp [nullV]
        have Hga := Lib.hid hga
        have HK9 : Hid (F = doesF (opk [78, 79, 84]) [a]) := Lib.hid K
        have HNB := Lib.hid hNB
        have hvv := Hown.out.inr
        obtain ⟨ad, rfl, -, d0, d1, d2⟩ := VaR.one hvv
        have hab := World.block_lt_of_cell? wr _ d0
        have Hvv := Lib.hid hvv
        clear K hs hl2 hgo hga hnb hNB hvv
        cases NB
        rotate_right 1
        · have r0 : wr.cell? ⟨w.heap.size + 2, 0, none⟩ = some (.int .i64 0) := Hrr9.out.cell 0
          have r1 : wr.cell? ⟨w.heap.size + 2, 1, none⟩ = some (.int .i64 0) := Hrr9.out.cell 1
          have r2 : wr.cell? ⟨w.heap.size + 2, 2, none⟩ = some (.string (str [])) := Hrr9.out.cell 2
          have f0 : wr.frozen? ⟨w.heap.size + 2, 0, none⟩ = false := Hrr9.out.frozen 0
          have f1 : wr.frozen? ⟨w.heap.size + 2, 1, none⟩ = false := Hrr9.out.frozen 1
          have f2 : wr.frozen? ⟨w.heap.size + 2, 2, none⟩ = false := Hrr9.out.frozen 2
          have zz := Hrr9.out.lt
          go_wp2
          refine bodyPost_ret (refval_results (n := 0) (Hrr9.out.set3 .zero) rfl rfl) rfl (ValEP.mk' (by rw [HK9.out]; exact if_pos (by simpa using HNB.out.symm)) ?_)
          exact (HSr9.out).set3 (fun h => by omega) _ _ _
        · have Hk : Hid (¬ (a.kind = 0)) := Lib.hid (by simpa using HNB.out.symm)
          go_wp2_with (go_at_call 39; refine stopAt ?_)
          unfold Hid
          refine (reftruth_any _ _).mono ?_
          rintro e' w2 ⟨rfl, hS2⟩
          clear d0 d1 d2 hab
          have hSz := hS2
          have hrrz := Hrr9.out.keep hSz trivial
          have r0 : w2.cell? ⟨w.heap.size + 2, 0, none⟩ = some (.int .i64 0) := hrrz.cell 0
          have r1 : w2.cell? ⟨w.heap.size + 2, 1, none⟩ = some (.int .i64 0) := hrrz.cell 1
          have r2 : w2.cell? ⟨w.heap.size + 2, 2, none⟩ = some (.string (str [])) := hrrz.cell 2
          have f0 : w2.frozen? ⟨w.heap.size + 2, 0, none⟩ = false := hrrz.frozen 0
          have f1 : w2.frozen? ⟨w.heap.size + 2, 1, none⟩ = false := hrrz.frozen 1
          have f2 : w2.frozen? ⟨w.heap.size + 2, 2, none⟩ = false := hrrz.frozen 2
          have zz := hrrz.lt
          have Hrrz := Lib.hid hrrz
          have HSz := Lib.hid hSz
          clear hrrz hSz
          go_wp2
          refine bodyPost_ret (refval_results (n := 0) (Hrrz.out.set3 (truthV _)) rfl rfl) rfl (ValEP.mk' (by rw [HK9.out, doc_not (Hga.out.2 rfl) Hk.out]; exact if_neg Hk.out) ?_)
          exact (HSr9.out.trans HSz.out).set3 (fun h => by omega) _ _ _
      · rw [hs] at k1 K hl2 hgo
        obtain ⟨a, rfl⟩ : ∃ a, vs = [a] := by
          match vs, hl2 with
          | [a], _ => exact ⟨a, rfl⟩
        have hga := hgo a (by simp)
        have hNB : NB = decide (a.kind = 0) := by rw [hnb]; simp [nullV]
        have Hga := Lib.hid hga
        have HK9 : Hid (F = doesF (opk [78, 69, 71]) [a]) := Lib.hid K
        have HNB := Lib.hid hNB
        have hvv := Hown.out.inr
        obtain ⟨ad, rfl, -, d0, d1, d2⟩ := VaR.one hvv
        have hab := World.block_lt_of_cell? wr _ d0
        have Hvv := Lib.hid hvv
        clear K hs hl2 hgo hga hnb hNB hvv
        cases NB
        rotate_right 1
        · have r0 : wr.cell? ⟨w.heap.size + 2, 0, none⟩ = some (.int .i64 0) := Hrr9.out.cell 0
          have r1 : wr.cell? ⟨w.heap.size + 2, 1, none⟩ = some (.int .i64 0) := Hrr9.out.cell 1
          have r2 : wr.cell? ⟨w.heap.size + 2, 2, none⟩ = some (.string (str [])) := Hrr9.out.cell 2
          have f0 : wr.frozen? ⟨w.heap.size + 2, 0, none⟩ = false := Hrr9.out.frozen 0
          have f1 : wr.frozen? ⟨w.heap.size + 2, 1, none⟩ = false := Hrr9.out.frozen 1
          have f2 : wr.frozen? ⟨w.heap.size + 2, 2, none⟩ = false := Hrr9.out.frozen 2
          have zz := Hrr9.out.lt
          go_wp2
          refine bodyPost_ret (refval_results (n := 0) (Hrr9.out.set3 .zero) rfl rfl) rfl (ValEP.mk' (by rw [HK9.out]; exact if_pos (by simpa using HNB.out.symm)) ?_)
          exact (HSr9.out).set3 (fun h => by omega) _ _ _
        · have Hk : Hid (¬ (a.kind = 0)) := Lib.hid (by simpa using HNB.out.symm)
          have gar : ∀ W, Calls Try.prog 42 #[.string (str [78, 69, 71])] W (fun e w' => e = .returned (.bool true) ∧ W = w') := fun W => refarith_any [78, 69, 71] W
          have gnu := fun W h => refnumber_neg (some ad) ck a (fun k => W0.heap.size ≤ k) W h (by omega) (by unfold maxLen; omega) Hga.out.1
          have HD : Hid (F = numF (fitF (-a.n))) := Lib.hid (by rw [HK9.out]; exact if_neg Hk.out)
          obtain ⟨D, hD⟩ : ∃ D, numF (fitF (-a.n)) = D := ⟨_, rfl⟩
          rw [hD] at gnu
          have HD : Hid (F = D) := Lib.hid (HD.out.trans hD)
          clear hD
          go_wp2_with (go_at_call 42; refine stopAt ?_)
          unfold Hid
          refine (gar _).mono ?_
          rintro e' wq ⟨rfl, rfl⟩
          go_wp2_with (go_at_call 43; refine stopAt ?_)
          unfold Hid
          refine (gnu _ Hvv.out).mono ?_
          rintro e' w2 ⟨rfl, hS2⟩
          clear gar gnu d0 d1 d2 hab
          obtain ⟨dv, dn⟩ := D
          have hSz := hS2
          have hrrz := Hrr9.out.keep hSz trivial
          have r0 : w2.cell? ⟨w.heap.size + 2, 0, none⟩ = some (.int .i64 0) := hrrz.cell 0
          have r1 : w2.cell? ⟨w.heap.size + 2, 1, none⟩ = some (.int .i64 0) := hrrz.cell 1
          have r2 : w2.cell? ⟨w.heap.size + 2, 2, none⟩ = some (.string (str [])) := hrrz.cell 2
          have f0 : w2.frozen? ⟨w.heap.size + 2, 0, none⟩ = false := hrrz.frozen 0
          have f1 : w2.frozen? ⟨w.heap.size + 2, 1, none⟩ = false := hrrz.frozen 1
          have f2 : w2.frozen? ⟨w.heap.size + 2, 2, none⟩ = false := hrrz.frozen 2
          have zz := hrrz.lt
          have Hrrz := Lib.hid hrrz
          have HSz := Lib.hid hSz
          clear hrrz hSz
          go_wp2
          refine bodyPost_ret (refval_results (n := dn) (Hrrz.out.set3 dv) rfl rfl) rfl (ValEP.mk' (HD.out) ?_)
          exact (HSr9.out.trans HSz.out).set3 (fun h => by omega) _ _ _
      · rw [hs] at k1 K hl2 hgo
        obtain ⟨a, b, rfl⟩ : ∃ a b, vs = [a, b] := by
          match vs, hl2 with
          | [a, b], _ => exact ⟨a, b, rfl⟩
        have hga := hgo a (by simp)
        have hgb := hgo b (by simp)
        have hNB : NB = (decide (a.kind = 0) || decide (b.kind = 0)) := by rw [hnb]; simp [nullV]
        have Hga := Lib.hid hga
        have Hgb := Lib.hid hgb
        have HK9 : Hid (F = doesF (opk [79, 82]) [a, b]) := Lib.hid K
        have HNB := Lib.hid hNB
        have hvv := Hown.out.inr
        obtain ⟨ad, rfl, -, d0, d1, d2, b0, b1, b2⟩ := VaR.two hvv
        have hab := World.block_lt_of_cell? wr _ d0
        have Hvv := Lib.hid hvv
        clear K hs hl2 hgo hga hnb hNB hvv hgb
        have gth := fun v W => refthree_any v W
        have gbo := fun W => refboth_or (threeF a) (threeF b) W
        rw [bothT_eq (by decide) (Hga.out.2 rfl).2 (Hgb.out.2 rfl).2 (Hga.out.2 rfl).1 (Hgb.out.2 rfl).1] at gbo
        go_wp2
        refine wp_region_tail_lit (L := [.eq (.pointer (some ⟨w.heap.size + 1, 1, none⟩)), .eq (.string (str [79, 82])), .eq (.slice (some ad) 2 ck), .eq (.pointer (some ad)), .eq (valV a), .eq (.int .i64 (threeF a)), .eq (.slice (some ad) 2 ck), .eq (.pointer (some ⟨ad.block, ad.off + 3, none⟩)), .eq (valV b), .eq (.int .i64 (threeF b)), .eq (valV (bothF 1 a b))]) 11 (by kernel_rfl) (by kernel_rfl) rfl rfl rfl ?_ ?_
        · refine ⟨?_, ?_, ?_, ?_, ?_, ?_, ?_, ?_, ?_, ?_, ?_, trivial⟩
          · intro ac wc hs hd hz hf hw K hK
            have e0 : ac.eval (.tmp 5) = (.pointer (some ⟨w.heap.size + 1, 0, none⟩)) := hf 5 rfl
            clear hd hz hf hw
            simp only [Region.wanted, if_true, Oper.wp, execOp, resolve, List.map_toArray, List.map_cons, List.map_nil, Option.map_some, Option.map_none, e0]
            go_simp
            exact hK _ _ rfl (Same.refl _ _)
          · intro ac wc hs hd hz hf hw K hK
            have e0 : ac.eval (.tmp 75) = (.pointer (some ⟨w.heap.size + 1, 1, none⟩)) := hw 0 rfl
            have m0 : wc.cell? ⟨w.heap.size + 1, 1, none⟩ = some (.string (str [79, 82])) := hs.cell (p := ⟨w.heap.size + 1, 1, none⟩) trivial k1
            clear hd hz hf hw
            simp only [Region.wanted, if_true, Oper.wp, execOp, resolve, List.map_toArray, List.map_cons, List.map_nil, Option.map_some, Option.map_none, e0]
            go_simp
            exact hK _ _ rfl (Same.refl _ _)
          · intro ac wc hs hd hz hf hw K hK
            have e0 : ac.eval (.tmp 8) = (.slice (some ad) 2 ck) := hf 8 rfl
            clear hd hz hf hw
            simp only [Region.wanted, if_true, Oper.wp, execOp, resolve, List.map_toArray, List.map_cons, List.map_nil, Option.map_some, Option.map_none, e0]
            go_simp
            exact hK _ _ rfl (Same.refl _ _)
          · intro ac wc hs hd hz hf hw K hK
            have e0 : ac.eval (.tmp 77) = (.slice (some ad) 2 ck) := hw 2 rfl
            clear hd hz hf hw
            simp only [Region.wanted, if_true, Oper.wp, execOp, resolve, List.map_toArray, List.map_cons, List.map_nil, Option.map_some, Option.map_none, e0]
            go_simp
            exact hK _ _ rfl (Same.refl _ _)
          · intro ac wc hs hd hz hf hw K hK
            have e0 : ac.eval (.tmp 78) = (.pointer (some ad)) := hw 3 rfl
            have m0 : wc.cell? ad = some (.int .i64 a.kind) := hs.cell (p := ad) trivial d0
            have m1 : wc.cell? ⟨ad.block, ad.off + 1, none⟩ = some (.int .i64 a.n) := hs.cell (p := ⟨ad.block, ad.off + 1, none⟩) trivial d1
            have m2 : wc.cell? ⟨ad.block, ad.off + 2, none⟩ = some (.string (str a.s)) := hs.cell (p := ⟨ad.block, ad.off + 2, none⟩) trivial d2
            clear hd hz hf hw
            simp only [Region.wanted, if_true, Oper.wp, execOp, resolve, List.map_toArray, List.map_cons, List.map_nil, Option.map_some, Option.map_none, e0]
            go_simp
            exact hK _ _ rfl (Same.refl _ _)
          · intro ac wc hs hd hz hf hw K hK
            have e0 : ac.eval (.tmp 79) = (valV a) := hw 4 rfl
            clear hd hz hf hw
            simp only [Region.wanted, if_true, Oper.wp, execOp, resolve, List.map_toArray, List.map_cons, List.map_nil, Option.map_some, Option.map_none, e0]
            go_simp
            refine (gth _ _).mono ?_
            rintro e wd ⟨rfl, hs2⟩
            exact hK _ _ rfl hs2
          · intro ac wc hs hd hz hf hw K hK
            have e0 : ac.eval (.tmp 8) = (.slice (some ad) 2 ck) := hf 8 rfl
            clear hd hz hf hw
            simp only [Region.wanted, if_true, Oper.wp, execOp, resolve, List.map_toArray, List.map_cons, List.map_nil, Option.map_some, Option.map_none, e0]
            go_simp
            exact hK _ _ rfl (Same.refl _ _)
          · intro ac wc hs hd hz hf hw K hK
            have e0 : ac.eval (.tmp 81) = (.slice (some ad) 2 ck) := hw 6 rfl
            clear hd hz hf hw
            simp only [Region.wanted, if_true, Oper.wp, execOp, resolve, List.map_toArray, List.map_cons, List.map_nil, Option.map_some, Option.map_none, e0]
            go_simp
            exact hK _ _ rfl (Same.refl _ _)
          · intro ac wc hs hd hz hf hw K hK
            have e0 : ac.eval (.tmp 82) = (.pointer (some ⟨ad.block, ad.off + 3, none⟩)) := hw 7 rfl
            have m0 : wc.cell? ⟨ad.block, ad.off + 3, none⟩ = some (.int .i64 b.kind) := hs.cell (p := ⟨ad.block, ad.off + 3, none⟩) trivial b0
            have m1 : wc.cell? ⟨ad.block, ad.off + 4, none⟩ = some (.int .i64 b.n) := hs.cell (p := ⟨ad.block, ad.off + 4, none⟩) trivial b1
            have m2 : wc.cell? ⟨ad.block, ad.off + 5, none⟩ = some (.string (str b.s)) := hs.cell (p := ⟨ad.block, ad.off + 5, none⟩) trivial b2
            clear hd hz hf hw
            simp only [Region.wanted, if_true, Oper.wp, execOp, resolve, List.map_toArray, List.map_cons, List.map_nil, Option.map_some, Option.map_none, e0]
            go_simp
            exact hK _ _ rfl (Same.refl _ _)
          · intro ac wc hs hd hz hf hw K hK
            have e0 : ac.eval (.tmp 83) = (valV b) := hw 8 rfl
            clear hd hz hf hw
            simp only [Region.wanted, if_true, Oper.wp, execOp, resolve, List.map_toArray, List.map_cons, List.map_nil, Option.map_some, Option.map_none, e0]
            go_simp
            refine (gth _ _).mono ?_
            rintro e wd ⟨rfl, hs2⟩
            exact hK _ _ rfl hs2
          · intro ac wc hs hd hz hf hw K hK
            have e0 : ac.eval (.tmp 76) = (.string (str [79, 82])) := hw 1 rfl
            have e1 : ac.eval (.tmp 80) = (.int .i64 (threeF a)) := hw 5 rfl
            have e2 : ac.eval (.tmp 84) = (.int .i64 (threeF b)) := hw 9 rfl
            clear hd hz hf hw
            simp only [Region.wanted, if_true, Oper.wp, execOp, resolve, List.map_toArray, List.map_cons, List.map_nil, Option.map_some, Option.map_none, e0, e1, e2]
            go_simp
            refine (gbo _).mono ?_
            rintro e wd ⟨rfl, hs2⟩
            exact hK _ _ rfl hs2
        · intro vs wR hvl hvp hsR
          rcases vs with _ | ⟨z0, _ | ⟨z1, _ | ⟨z2, _ | ⟨z3, _ | ⟨z4, _ | ⟨z5, _ | ⟨z6, _ | ⟨z7, _ | ⟨z8, _ | ⟨z9, _ | ⟨z10, _ | ⟨zz, zr⟩⟩⟩⟩⟩⟩⟩⟩⟩⟩⟩⟩
          rotate_right 1
          · simp at hvl
          · simp at hvl
          · simp at hvl
          · simp at hvl
          · simp at hvl
          · simp at hvl
          · simp at hvl
          · simp at hvl
          · simp at hvl
          · simp at hvl
          · simp at hvl
          · simp at hvl
          · obtain rfl : z0 = (.pointer (some ⟨w.heap.size + 1, 1, none⟩)) := hvp 0 (by omega)
            obtain rfl : z1 = (.string (str [79, 82])) := hvp 1 (by omega)
            obtain rfl : z2 = (.slice (some ad) 2 ck) := hvp 2 (by omega)
            obtain rfl : z3 = (.pointer (some ad)) := hvp 3 (by omega)
            obtain rfl : z4 = (valV a) := hvp 4 (by omega)
            obtain rfl : z5 = (.int .i64 (threeF a)) := hvp 5 (by omega)
            obtain rfl : z6 = (.slice (some ad) 2 ck) := hvp 6 (by omega)
            obtain rfl : z7 = (.pointer (some ⟨ad.block, ad.off + 3, none⟩)) := hvp 7 (by omega)
            obtain rfl : z8 = (valV b) := hvp 8 (by omega)
            obtain rfl : z9 = (.int .i64 (threeF b)) := hvp 9 (by omega)
            obtain rfl : z10 = (valV (bothF 1 a b)) := hvp 10 (by omega)
            clear hvl hvp
            simp only [putAll, Act.put, List.setIfInBounds_toArray, List.set_cons_succ, List.set_cons_zero, List.take_succ_cons, List.take_zero, List.drop_succ_cons, List.drop_zero, List.eraseIdx_cons_succ, List.eraseIdx_cons_zero]
            have hSz := hsR
            have hrrz := Hrr9.out.keep hSz trivial
            have r0 : wR.cell? ⟨w.heap.size + 2, 0, none⟩ = some (.int .i64 0) := hrrz.cell 0
            have r1 : wR.cell? ⟨w.heap.size + 2, 1, none⟩ = some (.int .i64 0) := hrrz.cell 1
            have r2 : wR.cell? ⟨w.heap.size + 2, 2, none⟩ = some (.string (str [])) := hrrz.cell 2
            have f0 : wR.frozen? ⟨w.heap.size + 2, 0, none⟩ = false := hrrz.frozen 0
            have f1 : wR.frozen? ⟨w.heap.size + 2, 1, none⟩ = false := hrrz.frozen 1
            have f2 : wR.frozen? ⟨w.heap.size + 2, 2, none⟩ = false := hrrz.frozen 2
            have zz := hrrz.lt
            have Hrrz := Lib.hid hrrz
            have HSz := Lib.hid hSz
            clear hrrz hSz
            go_wp2
            refine bodyPost_ret (refval_results (n := 0) (Hrrz.out.set3 (bothF 1 a b)) rfl rfl) rfl (ValEP.mk' (by rw [HK9.out]; rfl) ?_)
            exact (HSr9.out.trans HSz.out).set3 (fun h => by omega) _ _ _
      · rw [hs] at k1 K hl2 hgo
        obtain ⟨a, b, rfl⟩ : ∃ a b, vs = [a, b] := by
          match vs, hl2 with
          | [a, b], _ => exact ⟨a, b, rfl⟩
        have hga := hgo a (by simp)
        have hgb := hgo b (by simp)
        have hNB : NB = (decide (a.kind = 0) || decide (b.kind = 0)) := by rw [hnb]; simp [nullV]
        have Hga := Lib.hid hga
        have Hgb := Lib.hid hgb
        have HK9 : Hid (F = doesF (opk [65, 78, 68]) [a, b]) := Lib.hid K
        have HNB := Lib.hid hNB
        have hvv := Hown.out.inr
        obtain ⟨ad, rfl, -, d0, d1, d2, b0, b1, b2⟩ := VaR.two hvv
        have hab := World.block_lt_of_cell? wr _ d0
        have Hvv := Lib.hid hvv
        clear K hs hl2 hgo hga hnb hNB hvv hgb
        have gth := fun v W => refthree_any v W
        have gbo := fun W => refboth_and (threeF a) (threeF b) W
        rw [bothT_eq (by decide) (Hga.out.2 rfl).2 (Hgb.out.2 rfl).2 (Hga.out.2 rfl).1 (Hgb.out.2 rfl).1] at gbo
        go_wp2
        refine wp_region_tail_lit (L := [.eq (.pointer (some ⟨w.heap.size + 1, 1, none⟩)), .eq (.string (str [65, 78, 68])), .eq (.slice (some ad) 2 ck), .eq (.pointer (some ad)), .eq (valV a), .eq (.int .i64 (threeF a)), .eq (.slice (some ad) 2 ck), .eq (.pointer (some ⟨ad.block, ad.off + 3, none⟩)), .eq (valV b), .eq (.int .i64 (threeF b)), .eq (valV (bothF 0 a b))]) 11 (by kernel_rfl) (by kernel_rfl) rfl rfl rfl ?_ ?_
        · refine ⟨?_, ?_, ?_, ?_, ?_, ?_, ?_, ?_, ?_, ?_, ?_, trivial⟩
          · intro ac wc hs hd hz hf hw K hK
            have e0 : ac.eval (.tmp 5) = (.pointer (some ⟨w.heap.size + 1, 0, none⟩)) := hf 5 rfl
            clear hd hz hf hw
            simp only [Region.wanted, if_true, Oper.wp, execOp, resolve, List.map_toArray, List.map_cons, List.map_nil, Option.map_some, Option.map_none, e0]
            go_simp
            exact hK _ _ rfl (Same.refl _ _)
          · intro ac wc hs hd hz hf hw K hK
            have e0 : ac.eval (.tmp 75) = (.pointer (some ⟨w.heap.size + 1, 1, none⟩)) := hw 0 rfl
            have m0 : wc.cell? ⟨w.heap.size + 1, 1, none⟩ = some (.string (str [65, 78, 68])) := hs.cell (p := ⟨w.heap.size + 1, 1, none⟩) trivial k1
            clear hd hz hf hw
            simp only [Region.wanted, if_true, Oper.wp, execOp, resolve, List.map_toArray, List.map_cons, List.map_nil, Option.map_some, Option.map_none, e0]
            go_simp
            exact hK _ _ rfl (Same.refl _ _)
          · intro ac wc hs hd hz hf hw K hK
            have e0 : ac.eval (.tmp 8) = (.slice (some ad) 2 ck) := hf 8 rfl
            clear hd hz hf hw
            simp only [Region.wanted, if_true, Oper.wp, execOp, resolve, List.map_toArray, List.map_cons, List.map_nil, Option.map_some, Option.map_none, e0]
            go_simp
            exact hK _ _ rfl (Same.refl _ _)
          · intro ac wc hs hd hz hf hw K hK
            have e0 : ac.eval (.tmp 77) = (.slice (some ad) 2 ck) := hw 2 rfl
            clear hd hz hf hw
            simp only [Region.wanted, if_true, Oper.wp, execOp, resolve, List.map_toArray, List.map_cons, List.map_nil, Option.map_some, Option.map_none, e0]
            go_simp
            exact hK _ _ rfl (Same.refl _ _)
          · intro ac wc hs hd hz hf hw K hK
            have e0 : ac.eval (.tmp 78) = (.pointer (some ad)) := hw 3 rfl
            have m0 : wc.cell? ad = some (.int .i64 a.kind) := hs.cell (p := ad) trivial d0
            have m1 : wc.cell? ⟨ad.block, ad.off + 1, none⟩ = some (.int .i64 a.n) := hs.cell (p := ⟨ad.block, ad.off + 1, none⟩) trivial d1
            have m2 : wc.cell? ⟨ad.block, ad.off + 2, none⟩ = some (.string (str a.s)) := hs.cell (p := ⟨ad.block, ad.off + 2, none⟩) trivial d2
            clear hd hz hf hw
            simp only [Region.wanted, if_true, Oper.wp, execOp, resolve, List.map_toArray, List.map_cons, List.map_nil, Option.map_some, Option.map_none, e0]
            go_simp
            exact hK _ _ rfl (Same.refl _ _)
          · intro ac wc hs hd hz hf hw K hK
            have e0 : ac.eval (.tmp 79) = (valV a) := hw 4 rfl
            clear hd hz hf hw
            simp only [Region.wanted, if_true, Oper.wp, execOp, resolve, List.map_toArray, List.map_cons, List.map_nil, Option.map_some, Option.map_none, e0]
            go_simp
            refine (gth _ _).mono ?_
            rintro e wd ⟨rfl, hs2⟩
            exact hK _ _ rfl hs2
          · intro ac wc hs hd hz hf hw K hK
            have e0 : ac.eval (.tmp 8) = (.slice (some ad) 2 ck) := hf 8 rfl
            clear hd hz hf hw
            simp only [Region.wanted, if_true, Oper.wp, execOp, resolve, List.map_toArray, List.map_cons, List.map_nil, Option.map_some, Option.map_none, e0]
            go_simp
            exact hK _ _ rfl (Same.refl _ _)
          · intro ac wc hs hd hz hf hw K hK
            have e0 : ac.eval (.tmp 81) = (.slice (some ad) 2 ck) := hw 6 rfl
            clear hd hz hf hw
            simp only [Region.wanted, if_true, Oper.wp, execOp, resolve, List.map_toArray, List.map_cons, List.map_nil, Option.map_some, Option.map_none, e0]
            go_simp
            exact hK _ _ rfl (Same.refl _ _)
          · intro ac wc hs hd hz hf hw K hK
            have e0 : ac.eval (.tmp 82) = (.pointer (some ⟨ad.block, ad.off + 3, none⟩)) := hw 7 rfl
            have m0 : wc.cell? ⟨ad.block, ad.off + 3, none⟩ = some (.int .i64 b.kind) := hs.cell (p := ⟨ad.block, ad.off + 3, none⟩) trivial b0
            have m1 : wc.cell? ⟨ad.block, ad.off + 4, none⟩ = some (.int .i64 b.n) := hs.cell (p := ⟨ad.block, ad.off + 4, none⟩) trivial b1
            have m2 : wc.cell? ⟨ad.block, ad.off + 5, none⟩ = some (.string (str b.s)) := hs.cell (p := ⟨ad.block, ad.off + 5, none⟩) trivial b2
            clear hd hz hf hw
            simp only [Region.wanted, if_true, Oper.wp, execOp, resolve, List.map_toArray, List.map_cons, List.map_nil, Option.map_some, Option.map_none, e0]
            go_simp
            exact hK _ _ rfl (Same.refl _ _)
          · intro ac wc hs hd hz hf hw K hK
            have e0 : ac.eval (.tmp 83) = (valV b) := hw 8 rfl
            clear hd hz hf hw
            simp only [Region.wanted, if_true, Oper.wp, execOp, resolve, List.map_toArray, List.map_cons, List.map_nil, Option.map_some, Option.map_none, e0]
            go_simp
            refine (gth _ _).mono ?_
            rintro e wd ⟨rfl, hs2⟩
            exact hK _ _ rfl hs2
          · intro ac wc hs hd hz hf hw K hK
            have e0 : ac.eval (.tmp 76) = (.string (str [65, 78, 68])) := hw 1 rfl
            have e1 : ac.eval (.tmp 80) = (.int .i64 (threeF a)) := hw 5 rfl
            have e2 : ac.eval (.tmp 84) = (.int .i64 (threeF b)) := hw 9 rfl
            clear hd hz hf hw
            simp only [Region.wanted, if_true, Oper.wp, execOp, resolve, List.map_toArray, List.map_cons, List.map_nil, Option.map_some, Option.map_none, e0, e1, e2]
            go_simp
            refine (gbo _).mono ?_
            rintro e wd ⟨rfl, hs2⟩
            exact hK _ _ rfl hs2
        · intro vs wR hvl hvp hsR
          rcases vs with _ | ⟨z0, _ | ⟨z1, _ | ⟨z2, _ | ⟨z3, _ | ⟨z4, _ | ⟨z5, _ | ⟨z6, _ | ⟨z7, _ | ⟨z8, _ | ⟨z9, _ | ⟨z10, _ | ⟨zz, zr⟩⟩⟩⟩⟩⟩⟩⟩⟩⟩⟩⟩
          rotate_right 1
          · simp at hvl
          · simp at hvl
          · simp at hvl
          · simp at hvl
          · simp at hvl
          · simp at hvl
          · simp at hvl
          · simp at hvl
          · simp at hvl
          · simp at hvl
          · simp at hvl
          · simp at hvl
          · obtain rfl : z0 = (.pointer (some ⟨w.heap.size + 1, 1, none⟩)) := hvp 0 (by omega)
            obtain rfl : z1 = (.string (str [65, 78, 68])) := hvp 1 (by omega)
            obtain rfl : z2 = (.slice (some ad) 2 ck) := hvp 2 (by omega)
            obtain rfl : z3 = (.pointer (some ad)) := hvp 3 (by omega)
            obtain rfl : z4 = (valV a) := hvp 4 (by omega)
            obtain rfl : z5 = (.int .i64 (threeF a)) := hvp 5 (by omega)
            obtain rfl : z6 = (.slice (some ad) 2 ck) := hvp 6 (by omega)
            obtain rfl : z7 = (.pointer (some ⟨ad.block, ad.off + 3, none⟩)) := hvp 7 (by omega)
            obtain rfl : z8 = (valV b) := hvp 8 (by omega)
            obtain rfl : z9 = (.int .i64 (threeF b)) := hvp 9 (by omega)
            obtain rfl : z10 = (valV (bothF 0 a b)) := hvp 10 (by omega)
            clear hvl hvp
            simp only [putAll, Act.put, List.setIfInBounds_toArray, List.set_cons_succ, List.set_cons_zero, List.take_succ_cons, List.take_zero, List.drop_succ_cons, List.drop_zero, List.eraseIdx_cons_succ, List.eraseIdx_cons_zero]
            have hSz := hsR
            have hrrz := Hrr9.out.keep hSz trivial
            have r0 : wR.cell? ⟨w.heap.size + 2, 0, none⟩ = some (.int .i64 0) := hrrz.cell 0
            have r1 : wR.cell? ⟨w.heap.size + 2, 1, none⟩ = some (.int .i64 0) := hrrz.cell 1
            have r2 : wR.cell? ⟨w.heap.size + 2, 2, none⟩ = some (.string (str [])) := hrrz.cell 2
            have f0 : wR.frozen? ⟨w.heap.size + 2, 0, none⟩ = false := hrrz.frozen 0
            have f1 : wR.frozen? ⟨w.heap.size + 2, 1, none⟩ = false := hrrz.frozen 1
            have f2 : wR.frozen? ⟨w.heap.size + 2, 2, none⟩ = false := hrrz.frozen 2
            have zz := hrrz.lt
            have Hrrz := Lib.hid hrrz
            have HSz := Lib.hid hSz
            clear hrrz hSz
            go_wp2
            refine bodyPost_ret (refval_results (n := 0) (Hrrz.out.set3 (bothF 0 a b)) rfl rfl) rfl (ValEP.mk' (by rw [HK9.out]; rfl) ?_)
            exact (HSr9.out.trans HSz.out).set3 (fun h => by omega) _ _ _
      · rw [hs] at k1 K hl2 hgo
        obtain ⟨a, b, rfl⟩ : ∃ a b, vs = [a, b] := by
          match vs, hl2 with
          | [a, b], _ => exact ⟨a, b, rfl⟩
        have hga := hgo a (by simp)
        have hgb := hgo b (by simp)
        have hNB : NB = (decide (a.kind = 0) || decide (b.kind = 0)) := by rw [hnb]; simp [nullV]
        have Hga := Lib.hid hga
        have Hgb := Lib.hid hgb
        have HK9 : Hid (F = doesF (opk [43]) [a, b]) := Lib.hid K
        have HNB := Lib.hid hNB
        have hvv := Hown.out.inr
        obtain ⟨ad, rfl, -, d0, d1, d2, b0, b1, b2⟩ := VaR.two hvv
        have hab := World.block_lt_of_cell? wr _ d0
        have Hvv := Lib.hid hvv
        clear K hs hl2 hgo hga hnb hNB hvv hgb
        cases NB
        rotate_right 1
        · have r0 : wr.cell? ⟨w.heap.size + 2, 0, none⟩ = some (.int .i64 0) := Hrr9.out.cell 0
          have r1 : wr.cell? ⟨w.heap.size + 2, 1, none⟩ = some (.int .i64 0) := Hrr9.out.cell 1
          have r2 : wr.cell? ⟨w.heap.size + 2, 2, none⟩ = some (.string (str [])) := Hrr9.out.cell 2
          have f0 : wr.frozen? ⟨w.heap.size + 2, 0, none⟩ = false := Hrr9.out.frozen 0
          have f1 : wr.frozen? ⟨w.heap.size + 2, 1, none⟩ = false := Hrr9.out.frozen 1
          have f2 : wr.frozen? ⟨w.heap.size + 2, 2, none⟩ = false := Hrr9.out.frozen 2
          have zz := Hrr9.out.lt
          go_wp2
          refine bodyPost_ret (refval_results (n := 0) (Hrr9.out.set3 .zero) rfl rfl) rfl (ValEP.mk' (by rw [HK9.out]; exact if_pos (by simpa using HNB.out.symm)) ?_)
          exact (HSr9.out).set3 (fun h => by omega) _ _ _
        · have Hk : Hid (¬ (a.kind = 0 ∨ b.kind = 0)) := Lib.hid (by simpa using HNB.out.symm)
          have gar : ∀ W, Calls Try.prog 42 #[.string (str [43])] W (fun e w' => e = .returned (.bool true) ∧ W = w') := fun W => refarith_any [43] W
          have gnu := fun W h => refnumber_add (some ad) ck a b (fun k => W0.heap.size ≤ k) W h (by omega) (by unfold maxLen; omega) Hga.out.1 Hgb.out.1
          have HD : Hid (F = numF (fitF (a.n + b.n))) := Lib.hid (by rw [HK9.out]; exact if_neg Hk.out)
          obtain ⟨D, hD⟩ : ∃ D, numF (fitF (a.n + b.n)) = D := ⟨_, rfl⟩
          rw [hD] at gnu
          have HD : Hid (F = D) := Lib.hid (HD.out.trans hD)
          clear hD
          go_wp2_with (go_at_call 42; refine stopAt ?_)
          unfold Hid
          refine (gar _).mono ?_
          rintro e' wq ⟨rfl, rfl⟩
          go_wp2_with (go_at_call 43; refine stopAt ?_)
          unfold Hid
          refine (gnu _ Hvv.out).mono ?_
          rintro e' w2 ⟨rfl, hS2⟩
          clear gar gnu d0 d1 d2 hab
          obtain ⟨dv, dn⟩ := D
          have hSz := hS2
          have hrrz := Hrr9.out.keep hSz trivial
          have r0 : w2.cell? ⟨w.heap.size + 2, 0, none⟩ = some (.int .i64 0) := hrrz.cell 0
          have r1 : w2.cell? ⟨w.heap.size + 2, 1, none⟩ = some (.int .i64 0) := hrrz.cell 1
          have r2 : w2.cell? ⟨w.heap.size + 2, 2, none⟩ = some (.string (str [])) := hrrz.cell 2
          have f0 : w2.frozen? ⟨w.heap.size + 2, 0, none⟩ = false := hrrz.frozen 0
          have f1 : w2.frozen? ⟨w.heap.size + 2, 1, none⟩ = false := hrrz.frozen 1
          have f2 : w2.frozen? ⟨w.heap.size + 2, 2, none⟩ = false := hrrz.frozen 2
          have zz := hrrz.lt
          have Hrrz := Lib.hid hrrz
          have HSz := Lib.hid hSz
          clear hrrz hSz
          go_wp2
          refine bodyPost_ret (refval_results (n := dn) (Hrrz.out.set3 dv) rfl rfl) rfl (ValEP.mk' (HD.out) ?_)
          exact (HSr9.out.trans HSz.out).set3 (fun h => by omega) _ _ _
      · rw [hs] at k1 K hl2 hgo
        obtain ⟨a, b, rfl⟩ : ∃ a b, vs = [a, b] := by
          match vs, hl2 with
          | [a, b], _ => exact ⟨a, b, rfl⟩
        have hga := hgo a (by simp)
        have hgb := hgo b (by simp)
        have hNB : NB = (decide (a.kind = 0) || decide (b.kind = 0)) := by rw [hnb]; simp [nullV]
        have Hga := Lib.hid hga
        have Hgb := Lib.hid hgb
        have HK9 : Hid (F = doesF (opk [45]) [a, b]) := Lib.hid K
        have HNB := Lib.hid hNB
        have hvv := Hown.out.inr
        obtain ⟨ad, rfl, -, d0, d1, d2, b0, b1, b2⟩ := VaR.two hvv
        have hab := World.block_lt_of_cell? wr _ d0
        have Hvv := Lib.hid hvv
        clear K hs hl2 hgo hga hnb hNB hvv hgb
        cases NB
        rotate_right 1
        · have r0 : wr.cell? ⟨w.heap.size + 2, 0, none⟩ = some (.int .i64 0) := Hrr9.out.cell 0
          have r1 : wr.cell? ⟨w.heap.size + 2, 1, none⟩ = some (.int .i64 0) := Hrr9.out.cell 1
          have r2 : wr.cell? ⟨w.heap.size + 2, 2, none⟩ = some (.string (str [])) := Hrr9.out.cell 2
          have f0 : wr.frozen? ⟨w.heap.size + 2, 0, none⟩ = false := Hrr9.out.frozen 0
          have f1 : wr.frozen? ⟨w.heap.size + 2, 1, none⟩ = false := Hrr9.out.frozen 1
          have f2 : wr.frozen? ⟨w.heap.size + 2, 2, none⟩ = false := Hrr9.out.frozen 2
          have zz := Hrr9.out.lt
          go_wp2
          refine bodyPost_ret (refval_results (n := 0) (Hrr9.out.set3 .zero) rfl rfl) rfl (ValEP.mk' (by rw [HK9.out]; exact if_pos (by simpa using HNB.out.symm)) ?_)
          exact (HSr9.out).set3 (fun h => by omega) _ _ _
        · have Hk : Hid (¬ (a.kind = 0 ∨ b.kind = 0)) := Lib.hid (by simpa using HNB.out.symm)
          have gar : ∀ W, Calls Try.prog 42 #[.string (str [45])] W (fun e w' => e = .returned (.bool true) ∧ W = w') := fun W => refarith_any [45] W
          have gnu := fun W h => refnumber_sub (some ad) ck a b (fun k => W0.heap.size ≤ k) W h (by omega) (by unfold maxLen; omega) Hga.out.1 Hgb.out.1
          have HD : Hid (F = numF (fitF (a.n - b.n))) := Lib.hid (by rw [HK9.out]; exact if_neg Hk.out)
          obtain ⟨D, hD⟩ : ∃ D, numF (fitF (a.n - b.n)) = D := ⟨_, rfl⟩
          rw [hD] at gnu
          have HD : Hid (F = D) := Lib.hid (HD.out.trans hD)
          clear hD
          go_wp2_with (go_at_call 42; refine stopAt ?_)
          unfold Hid
          refine (gar _).mono ?_
          rintro e' wq ⟨rfl, rfl⟩
          go_wp2_with (go_at_call 43; refine stopAt ?_)
          unfold Hid
          refine (gnu _ Hvv.out).mono ?_
          rintro e' w2 ⟨rfl, hS2⟩
          clear gar gnu d0 d1 d2 hab
          obtain ⟨dv, dn⟩ := D
          have hSz := hS2
          have hrrz := Hrr9.out.keep hSz trivial
          have r0 : w2.cell? ⟨w.heap.size + 2, 0, none⟩ = some (.int .i64 0) := hrrz.cell 0
          have r1 : w2.cell? ⟨w.heap.size + 2, 1, none⟩ = some (.int .i64 0) := hrrz.cell 1
          have r2 : w2.cell? ⟨w.heap.size + 2, 2, none⟩ = some (.string (str [])) := hrrz.cell 2
          have f0 : w2.frozen? ⟨w.heap.size + 2, 0, none⟩ = false := hrrz.frozen 0
          have f1 : w2.frozen? ⟨w.heap.size + 2, 1, none⟩ = false := hrrz.frozen 1
          have f2 : w2.frozen? ⟨w.heap.size + 2, 2, none⟩ = false := hrrz.frozen 2
          have zz := hrrz.lt
          have Hrrz := Lib.hid hrrz
          have HSz := Lib.hid hSz
          clear hrrz hSz
          go_wp2
          refine bodyPost_ret (refval_results (n := dn) (Hrrz.out.set3 dv) rfl rfl) rfl (ValEP.mk' (HD.out) ?_)
          exact (HSr9.out.trans HSz.out).set3 (fun h => by omega) _ _ _
      · rw [hs] at k1 K hl2 hgo
        obtain ⟨a, b, rfl⟩ : ∃ a b, vs = [a, b] := by
          match vs, hl2 with
          | [a, b], _ => exact ⟨a, b, rfl⟩
        have hga := hgo a (by simp)
        have hgb := hgo b (by simp)
        have hNB : NB = (decide (a.kind = 0) || decide (b.kind = 0)) := by rw [hnb]; simp [nullV]
        have Hga := Lib.hid hga
        have Hgb := Lib.hid hgb
        have HK9 : Hid (F = doesF (opk [42]) [a, b]) := Lib.hid K
        have HNB := Lib.hid hNB
        have hvv := Hown.out.inr
        obtain ⟨ad, rfl, -, d0, d1, d2, b0, b1, b2⟩ := VaR.two hvv
        have hab := World.block_lt_of_cell? wr _ d0
        have Hvv := Lib.hid hvv
        clear K hs hl2 hgo hga hnb hNB hvv hgb
        cases NB
        rotate_right 1
        · have r0 : wr.cell? ⟨w.heap.size + 2, 0, none⟩ = some (.int .i64 0) := Hrr9.out.cell 0
          have r1 : wr.cell? ⟨w.heap.size + 2, 1, none⟩ = some (.int .i64 0) := Hrr9.out.cell 1
          have r2 : wr.cell? ⟨w.heap.size + 2, 2, none⟩ = some (.string (str [])) := Hrr9.out.cell 2
          have f0 : wr.frozen? ⟨w.heap.size + 2, 0, none⟩ = false := Hrr9.out.frozen 0
          have f1 : wr.frozen? ⟨w.heap.size + 2, 1, none⟩ = false := Hrr9.out.frozen 1
          have f2 : wr.frozen? ⟨w.heap.size + 2, 2, none⟩ = false := Hrr9.out.frozen 2
          have zz := Hrr9.out.lt
          go_wp2
          refine bodyPost_ret (refval_results (n := 0) (Hrr9.out.set3 .zero) rfl rfl) rfl (ValEP.mk' (by rw [HK9.out]; exact if_pos (by simpa using HNB.out.symm)) ?_)
          exact (HSr9.out).set3 (fun h => by omega) _ _ _
        · have Hk : Hid (¬ (a.kind = 0 ∨ b.kind = 0)) := Lib.hid (by simpa using HNB.out.symm)
          have gar : ∀ W, Calls Try.prog 42 #[.string (str [42])] W (fun e w' => e = .returned (.bool true) ∧ W = w') := fun W => refarith_any [42] W
          have gnu := fun W h => refnumber_mul (some ad) ck a b (fun k => W0.heap.size ≤ k) W h (by omega) (by unfold maxLen; omega) Hga.out.1 Hgb.out.1
          have HD : Hid (F = numF (fitF (a.n * b.n))) := Lib.hid (by rw [HK9.out]; exact if_neg Hk.out)
          obtain ⟨D, hD⟩ : ∃ D, numF (fitF (a.n * b.n)) = D := ⟨_, rfl⟩
          rw [hD] at gnu
          have HD : Hid (F = D) := Lib.hid (HD.out.trans hD)
          clear hD
          go_wp2_with (go_at_call 42; refine stopAt ?_)
          unfold Hid
          refine (gar _).mono ?_
          rintro e' wq ⟨rfl, rfl⟩
          go_wp2_with (go_at_call 43; refine stopAt ?_)
          unfold Hid
          refine (gnu _ Hvv.out).mono ?_
          rintro e' w2 ⟨rfl, hS2⟩
          clear gar gnu d0 d1 d2 hab
          obtain ⟨dv, dn⟩ := D
          have hSz := hS2
          have hrrz := Hrr9.out.keep hSz trivial
          have r0 : w2.cell? ⟨w.heap.size + 2, 0, none⟩ = some (.int .i64 0) := hrrz.cell 0
          have r1 : w2.cell? ⟨w.heap.size + 2, 1, none⟩ = some (.int .i64 0) := hrrz.cell 1
          have r2 : w2.cell? ⟨w.heap.size + 2, 2, none⟩ = some (.string (str [])) := hrrz.cell 2
          have f0 : w2.frozen? ⟨w.heap.size + 2, 0, none⟩ = false := hrrz.frozen 0
          have f1 : w2.frozen? ⟨w.heap.size + 2, 1, none⟩ = false := hrrz.frozen 1
          have f2 : w2.frozen? ⟨w.heap.size + 2, 2, none⟩ = false := hrrz.frozen 2
          have zz := hrrz.lt
          have Hrrz := Lib.hid hrrz
          have HSz := Lib.hid hSz
          clear hrrz hSz
          go_wp2
          refine bodyPost_ret (refval_results (n := dn) (Hrrz.out.set3 dv) rfl rfl) rfl (ValEP.mk' (HD.out) ?_)
          exact (HSr9.out.trans HSz.out).set3 (fun h => by omega) _ _ _
      · rw [hs] at k1 K hl2 hgo
        obtain ⟨a, b, rfl⟩ : ∃ a b, vs = [a, b] := by
          match vs, hl2 with
          | [a, b], _ => exact ⟨a, b, rfl⟩
        have hga := hgo a (by simp)
        have hgb := hgo b (by simp)
        have hNB : NB = (decide (a.kind = 0) || decide (b.kind = 0)) := by rw [hnb]; simp [nullV]
        have Hga := Lib.hid hga
        have Hgb := Lib.hid hgb
        have HK9 : Hid (F = doesF (opk [47]) [a, b]) := Lib.hid K
        have HNB := Lib.hid hNB
        have hvv := Hown.out.inr
        obtain ⟨ad, rfl, -, d0, d1, d2, b0, b1, b2⟩ := VaR.two hvv
        have hab := World.block_lt_of_cell? wr _ d0
        have Hvv := Lib.hid hvv
        clear K hs hl2 hgo hga hnb hNB hvv hgb
        cases NB
        rotate_right 1
        · have r0 : wr.cell? ⟨w.heap.size + 2, 0, none⟩ = some (.int .i64 0) := Hrr9.out.cell 0
          have r1 : wr.cell? ⟨w.heap.size + 2, 1, none⟩ = some (.int .i64 0) := Hrr9.out.cell 1
          have r2 : wr.cell? ⟨w.heap.size + 2, 2, none⟩ = some (.string (str [])) := Hrr9.out.cell 2
          have f0 : wr.frozen? ⟨w.heap.size + 2, 0, none⟩ = false := Hrr9.out.frozen 0
          have f1 : wr.frozen? ⟨w.heap.size + 2, 1, none⟩ = false := Hrr9.out.frozen 1
          have f2 : wr.frozen? ⟨w.heap.size + 2, 2, none⟩ = false := Hrr9.out.frozen 2
          have zz := Hrr9.out.lt
          go_wp2
          refine bodyPost_ret (refval_results (n := 0) (Hrr9.out.set3 .zero) rfl rfl) rfl (ValEP.mk' (by rw [HK9.out]; exact if_pos (by simpa using HNB.out.symm)) ?_)
          exact (HSr9.out).set3 (fun h => by omega) _ _ _
        · have Hk : Hid (¬ (a.kind = 0 ∨ b.kind = 0)) := Lib.hid (by simpa using HNB.out.symm)
          have gar : ∀ W, Calls Try.prog 42 #[.string (str [47])] W (fun e w' => e = .returned (.bool true) ∧ W = w') := fun W => refarith_any [47] W
          have gnu := fun W h => refnumber_div (some ad) ck a b (fun k => W0.heap.size ≤ k) W h (by omega) (by unfold maxLen; omega) Hga.out.1 Hgb.out.1
          have HD : Hid (F = numF (if b.n = 0 then (0, 17) else fitF (a.n.tdiv b.n))) := Lib.hid (by rw [HK9.out]; exact if_neg Hk.out)
          obtain ⟨D, hD⟩ : ∃ D, numF (if b.n = 0 then (0, 17) else fitF (a.n.tdiv b.n)) = D := ⟨_, rfl⟩
          rw [hD] at gnu
          have HD : Hid (F = D) := Lib.hid (HD.out.trans hD)
          clear hD
          go_wp2_with (go_at_call 42; refine stopAt ?_)
          unfold Hid
          refine (gar _).mono ?_
          rintro e' wq ⟨rfl, rfl⟩
          go_wp2_with (go_at_call 43; refine stopAt ?_)
          unfold Hid
          refine (gnu _ Hvv.out).mono ?_
          rintro e' w2 ⟨rfl, hS2⟩
          clear gar gnu d0 d1 d2 hab
          obtain ⟨dv, dn⟩ := D
          have hSz := hS2
          have hrrz := Hrr9.out.keep hSz trivial
          have r0 : w2.cell? ⟨w.heap.size + 2, 0, none⟩ = some (.int .i64 0) := hrrz.cell 0
          have r1 : w2.cell? ⟨w.heap.size + 2, 1, none⟩ = some (.int .i64 0) := hrrz.cell 1
          have r2 : w2.cell? ⟨w.heap.size + 2, 2, none⟩ = some (.string (str [])) := hrrz.cell 2
          have f0 : w2.frozen? ⟨w.heap.size + 2, 0, none⟩ = false := hrrz.frozen 0
          have f1 : w2.frozen? ⟨w.heap.size + 2, 1, none⟩ = false := hrrz.frozen 1
          have f2 : w2.frozen? ⟨w.heap.size + 2, 2, none⟩ = false := hrrz.frozen 2
          have zz := hrrz.lt
          have Hrrz := Lib.hid hrrz
          have HSz := Lib.hid hSz
          clear hrrz hSz
          go_wp2
          refine bodyPost_ret (refval_results (n := dn) (Hrrz.out.set3 dv) rfl rfl) rfl (ValEP.mk' (HD.out) ?_)
          exact (HSr9.out.trans HSz.out).set3 (fun h => by omega) _ _ _
      · rw [hs] at k1 K hl2 hgo
        obtain ⟨a, b, rfl⟩ : ∃ a b, vs = [a, b] := by
          match vs, hl2 with
          | [a, b], _ => exact ⟨a, b, rfl⟩
        have hga := hgo a (by simp)
        have hgb := hgo b (by simp)
        have hNB : NB = (decide (a.kind = 0) || decide (b.kind = 0)) := by rw [hnb]; simp [nullV]
        have Hga := Lib.hid hga
        have Hgb := Lib.hid hgb
        have HK9 : Hid (F = doesF (opk [37]) [a, b]) := Lib.hid K
        have HNB := Lib.hid hNB
        have hvv := Hown.out.inr
        obtain ⟨ad, rfl, -, d0, d1, d2, b0, b1, b2⟩ := VaR.two hvv
        have hab := World.block_lt_of_cell? wr _ d0
        have Hvv := Lib.hid hvv
        clear K hs hl2 hgo hga hnb hNB hvv hgb
        cases NB
        rotate_right 1
        · have r0 : wr.cell? ⟨w.heap.size + 2, 0, none⟩ = some (.int .i64 0) := Hrr9.out.cell 0
          have r1 : wr.cell? ⟨w.heap.size + 2, 1, none⟩ = some (.int .i64 0) := Hrr9.out.cell 1
          have r2 : wr.cell? ⟨w.heap.size + 2, 2, none⟩ = some (.string (str [])) := Hrr9.out.cell 2
          have f0 : wr.frozen? ⟨w.heap.size + 2, 0, none⟩ = false := Hrr9.out.frozen 0
          have f1 : wr.frozen? ⟨w.heap.size + 2, 1, none⟩ = false := Hrr9.out.frozen 1
          have f2 : wr.frozen? ⟨w.heap.size + 2, 2, none⟩ = false := Hrr9.out.frozen 2
          have zz := Hrr9.out.lt
          go_wp2
          refine bodyPost_ret (refval_results (n := 0) (Hrr9.out.set3 .zero) rfl rfl) rfl (ValEP.mk' (by rw [HK9.out]; exact if_pos (by simpa using HNB.out.symm)) ?_)
          exact (HSr9.out).set3 (fun h => by omega) _ _ _
        · have Hk : Hid (¬ (a.kind = 0 ∨ b.kind = 0)) := Lib.hid (by simpa using HNB.out.symm)
          have gar : ∀ W, Calls Try.prog 42 #[.string (str [37])] W (fun e w' => e = .returned (.bool true) ∧ W = w') := fun W => refarith_any [37] W
          have gnu := fun W h => refnumber_mod (some ad) ck a b (fun k => W0.heap.size ≤ k) W h (by omega) (by unfold maxLen; omega) Hga.out.1 Hgb.out.1
          have HD : Hid (F = numF (if b.n = 0 then (0, 17) else (a.n.tmod b.n, 0))) := Lib.hid (by rw [HK9.out]; exact if_neg Hk.out)
          obtain ⟨D, hD⟩ : ∃ D, numF (if b.n = 0 then (0, 17) else (a.n.tmod b.n, 0)) = D := ⟨_, rfl⟩
          rw [hD] at gnu
          have HD : Hid (F = D) := Lib.hid (HD.out.trans hD)
          clear hD
          go_wp2_with (go_at_call 42; refine stopAt ?_)
          unfold Hid
          refine (gar _).mono ?_
          rintro e' wq ⟨rfl, rfl⟩
          go_wp2_with (go_at_call 43; refine stopAt ?_)
          unfold Hid
          refine (gnu _ Hvv.out).mono ?_
          rintro e' w2 ⟨rfl, hS2⟩
          clear gar gnu d0 d1 d2 hab
          obtain ⟨dv, dn⟩ := D
          have hSz := hS2
          have hrrz := Hrr9.out.keep hSz trivial
          have r0 : w2.cell? ⟨w.heap.size + 2, 0, none⟩ = some (.int .i64 0) := hrrz.cell 0
          have r1 : w2.cell? ⟨w.heap.size + 2, 1, none⟩ = some (.int .i64 0) := hrrz.cell 1
          have r2 : w2.cell? ⟨w.heap.size + 2, 2, none⟩ = some (.string (str [])) := hrrz.cell 2
          have f0 : w2.frozen? ⟨w.heap.size + 2, 0, none⟩ = false := hrrz.frozen 0
          have f1 : w2.frozen? ⟨w.heap.size + 2, 1, none⟩ = false := hrrz.frozen 1
          have f2 : w2.frozen? ⟨w.heap.size + 2, 2, none⟩ = false := hrrz.frozen 2
          have zz := hrrz.lt
          have Hrrz := Lib.hid hrrz
          have HSz := Lib.hid hSz
          clear hrrz hSz
          go_wp2
          refine bodyPost_ret (refval_results (n := dn) (Hrrz.out.set3 dv) rfl rfl) rfl (ValEP.mk' (HD.out) ?_)
          exact (HSr9.out.trans HSz.out).set3 (fun h => by omega) _ _ _
      · rw [hs] at k1 K hl2 hgo
        obtain ⟨a, b, rfl⟩ : ∃ a b, vs = [a, b] := by
          match vs, hl2 with
          | [a, b], _ => exact ⟨a, b, rfl⟩
        have hga := hgo a (by simp)
        have hgb := hgo b (by simp)
        have hNB : NB = (decide (a.kind = 0) || decide (b.kind = 0)) := by rw [hnb]; simp [nullV]
        have Hga := Lib.hid hga
        have Hgb := Lib.hid hgb
        have HK9 : Hid (F = doesF (opk [61]) [a, b]) := Lib.hid K
        have HNB := Lib.hid hNB
        have hvv := Hown.out.inr
        obtain ⟨ad, rfl, -, d0, d1, d2, b0, b1, b2⟩ := VaR.two hvv
        have hab := World.block_lt_of_cell? wr _ d0
        have Hvv := Lib.hid hvv
        clear K hs hl2 hgo hga hnb hNB hvv hgb
        cases NB
        rotate_right 1
        · have r0 : wr.cell? ⟨w.heap.size + 2, 0, none⟩ = some (.int .i64 0) := Hrr9.out.cell 0
          have r1 : wr.cell? ⟨w.heap.size + 2, 1, none⟩ = some (.int .i64 0) := Hrr9.out.cell 1
          have r2 : wr.cell? ⟨w.heap.size + 2, 2, none⟩ = some (.string (str [])) := Hrr9.out.cell 2
          have f0 : wr.frozen? ⟨w.heap.size + 2, 0, none⟩ = false := Hrr9.out.frozen 0
          have f1 : wr.frozen? ⟨w.heap.size + 2, 1, none⟩ = false := Hrr9.out.frozen 1
          have f2 : wr.frozen? ⟨w.heap.size + 2, 2, none⟩ = false := Hrr9.out.frozen 2
          have zz := Hrr9.out.lt
          go_wp2
          refine bodyPost_ret (refval_results (n := 0) (Hrr9.out.set3 .zero) rfl rfl) rfl (ValEP.mk' (by rw [HK9.out]; exact if_pos (by simpa using HNB.out.symm)) ?_)
          exact (HSr9.out).set3 (fun h => by omega) _ _ _
        · have Hk : Hid (¬ (a.kind = 0 ∨ b.kind = 0)) := Lib.hid (by simpa using HNB.out.symm)
          have gar : ∀ W, Calls Try.prog 42 #[.string (str [61])] W (fun e w' => e = .returned (.bool false) ∧ W = w') := fun W => refarith_any [61] W
          have gcm := fun W => refCompare_any a b W
          have HD : Hid (F = (truthV (holdsF .eq (cmpV a b)), 0)) := Lib.hid (by rw [HK9.out]; exact if_neg Hk.out)
          obtain ⟨C, hC⟩ : ∃ C, cmpV a b = C := ⟨_, rfl⟩
          rw [hC] at gcm
          have HD : Hid (F = (truthV (holdsF .eq C), 0)) := Lib.hid (by rw [HD.out, hC])
          clear hC
          go_wp2_with (go_at_call 42; refine stopAt ?_)
          unfold Hid
          refine (gar _).mono ?_
          rintro e' wq ⟨rfl, rfl⟩
          go_wp2
          refine wp_region_eq_lit (vs := [(.slice (some ad) 2 ck), (.pointer (some ad)), (valV a), (.slice (some ad) 2 ck), (.pointer (some ⟨ad.block, ad.off + 3, none⟩)), (valV b), (.int .i64 C), (.int .i64 C)]) (by kernel_rfl) (by kernel_rfl) rfl rfl ?_ ?_
          · refine ⟨?_, ?_, ?_, ?_, ?_, ?_, ?_, ?_, trivial⟩
            · intro ac wc hs hd hz hf hw K hK
              have e0 : ac.eval (.tmp 8) = (.slice (some ad) 2 ck) := hf 8 rfl
              clear hd hz hf hw
              simp only [Region.wanted, if_true, Oper.wp, execOp, resolve, List.map_toArray, List.map_cons, List.map_nil, Option.map_some, Option.map_none, e0]
              go_simp
              exact hK _ _ rfl (Same.refl _ _)
            · intro ac wc hs hd hz hf hw K hK
              have e0 : ac.eval (.tmp 106) = (.slice (some ad) 2 ck) := hw 0 rfl
              clear hd hz hf hw
              simp only [Region.wanted, if_true, Oper.wp, execOp, resolve, List.map_toArray, List.map_cons, List.map_nil, Option.map_some, Option.map_none, e0]
              go_simp
              exact hK _ _ rfl (Same.refl _ _)
            · intro ac wc hs hd hz hf hw K hK
              have e0 : ac.eval (.tmp 107) = (.pointer (some ad)) := hw 1 rfl
              have m0 : wc.cell? ad = some (.int .i64 a.kind) := hs.cell (p := ad) trivial d0
              have m1 : wc.cell? ⟨ad.block, ad.off + 1, none⟩ = some (.int .i64 a.n) := hs.cell (p := ⟨ad.block, ad.off + 1, none⟩) trivial d1
              have m2 : wc.cell? ⟨ad.block, ad.off + 2, none⟩ = some (.string (str a.s)) := hs.cell (p := ⟨ad.block, ad.off + 2, none⟩) trivial d2
              clear hd hz hf hw
              simp only [Region.wanted, if_true, Oper.wp, execOp, resolve, List.map_toArray, List.map_cons, List.map_nil, Option.map_some, Option.map_none, e0]
              go_simp
              exact hK _ _ rfl (Same.refl _ _)
            · intro ac wc hs hd hz hf hw K hK
              have e0 : ac.eval (.tmp 8) = (.slice (some ad) 2 ck) := hf 8 rfl
              clear hd hz hf hw
              simp only [Region.wanted, if_true, Oper.wp, execOp, resolve, List.map_toArray, List.map_cons, List.map_nil, Option.map_some, Option.map_none, e0]
              go_simp
              exact hK _ _ rfl (Same.refl _ _)
            · intro ac wc hs hd hz hf hw K hK
              have e0 : ac.eval (.tmp 109) = (.slice (some ad) 2 ck) := hw 3 rfl
              clear hd hz hf hw
              simp only [Region.wanted, if_true, Oper.wp, execOp, resolve, List.map_toArray, List.map_cons, List.map_nil, Option.map_some, Option.map_none, e0]
              go_simp
              exact hK _ _ rfl (Same.refl _ _)
            · intro ac wc hs hd hz hf hw K hK
              have e0 : ac.eval (.tmp 110) = (.pointer (some ⟨ad.block, ad.off + 3, none⟩)) := hw 4 rfl
              have m0 : wc.cell? ⟨ad.block, ad.off + 3, none⟩ = some (.int .i64 b.kind) := hs.cell (p := ⟨ad.block, ad.off + 3, none⟩) trivial b0
              have m1 : wc.cell? ⟨ad.block, ad.off + 4, none⟩ = some (.int .i64 b.n) := hs.cell (p := ⟨ad.block, ad.off + 4, none⟩) trivial b1
              have m2 : wc.cell? ⟨ad.block, ad.off + 5, none⟩ = some (.string (str b.s)) := hs.cell (p := ⟨ad.block, ad.off + 5, none⟩) trivial b2
              clear hd hz hf hw
              simp only [Region.wanted, if_true, Oper.wp, execOp, resolve, List.map_toArray, List.map_cons, List.map_nil, Option.map_some, Option.map_none, e0]
              go_simp
              exact hK _ _ rfl (Same.refl _ _)
            · intro ac wc hs hd hz hf hw K hK
              have e0 : ac.eval (.tmp 108) = (valV a) := hw 2 rfl
              have e1 : ac.eval (.tmp 111) = (valV b) := hw 5 rfl
              clear hd hz hf hw
              simp only [Region.wanted, if_true, Oper.wp, execOp, resolve, List.map_toArray, List.map_cons, List.map_nil, Option.map_some, Option.map_none, e0, e1]
              go_simp
              refine (gcm _).mono ?_
              rintro e wd ⟨rfl, hs2⟩
              exact hK _ _ rfl hs2
            · intro ac wc hs hd hz hf hw K hK
              have e0 : ac.eval (.tmp 112) = (.int .i64 C) := hw 6 rfl
              clear hd hz hf hw
              simp only [Region.wanted, if_true, Oper.wp, execOp, resolve, List.map_toArray, List.map_cons, List.map_nil, Option.map_some, Option.map_none, e0]
              go_simp
              exact hK _ _ rfl (Same.refl _ _)
          · intro wR hsR
            simp only [putAll, Act.put, List.setIfInBounds_toArray, List.set_cons_succ, List.set_cons_zero]
            have k1 := hsR.cell (p := ⟨w.heap.size + 1, 1, none⟩) trivial k1
            have zk := Nat.lt_of_lt_of_le z1 hsR.size
            have HsR := Lib.hid hsR
            clear hsR gar gcm d0 d1 d2 b0 b1 b2 hab
            go_wp2_with (go_at_call 39; refine stopAt ?_)
            unfold Hid
            refine (reftruth_any _ _).mono ?_
            rintro e' w2 ⟨rfl, hS2⟩
            have hSz := HsR.out.trans hS2
            have hrrz := Hrr9.out.keep hSz trivial
            have r0 : w2.cell? ⟨w.heap.size + 2, 0, none⟩ = some (.int .i64 0) := hrrz.cell 0
            have r1 : w2.cell? ⟨w.heap.size + 2, 1, none⟩ = some (.int .i64 0) := hrrz.cell 1
            have r2 : w2.cell? ⟨w.heap.size + 2, 2, none⟩ = some (.string (str [])) := hrrz.cell 2
            have f0 : w2.frozen? ⟨w.heap.size + 2, 0, none⟩ = false := hrrz.frozen 0
            have f1 : w2.frozen? ⟨w.heap.size + 2, 1, none⟩ = false := hrrz.frozen 1
            have f2 : w2.frozen? ⟨w.heap.size + 2, 2, none⟩ = false := hrrz.frozen 2
            have zz := hrrz.lt
            have Hrrz := Lib.hid hrrz
            have HSz := Lib.hid hSz
            clear hrrz hSz
            go_wp2
            refine bodyPost_ret (refval_results (n := 0) (Hrrz.out.set3 (truthV _)) rfl rfl) rfl (ValEP.mk' (by rw [HD.out]; rfl) ?_)
            exact (HSr9.out.trans HSz.out).set3 (fun h => by omega) _ _ _
      · rw [hs] at k1 K hl2 hgo
        obtain ⟨a, b, rfl⟩ : ∃ a b, vs = [a, b] := by
          match vs, hl2 with
          | [a, b], _ => exact ⟨a, b, rfl⟩
        have hga := hgo a (by simp)
        have hgb := hgo b (by simp)
        have hNB : NB = (decide (a.kind = 0) || decide (b.kind = 0)) := by rw [hnb]; simp [nullV]
        have Hga := Lib.hid hga
        have Hgb := Lib.hid hgb
        have HK9 : Hid (F = doesF (opk [60, 62]) [a, b]) := Lib.hid K
        have HNB := Lib.hid hNB
        have hvv := Hown.out.inr
        obtain ⟨ad, rfl, -, d0, d1, d2, b0, b1, b2⟩ := VaR.two hvv
        have hab := World.block_lt_of_cell? wr _ d0
        have Hvv := Lib.hid hvv
        clear K hs hl2 hgo hga hnb hNB hvv hgb
        cases NB
        rotate_right 1
        · have r0 : wr.cell? ⟨w.heap.size + 2, 0, none⟩ = some (.int .i64 0) := Hrr9.out.cell 0
          have r1 : wr.cell? ⟨w.heap.size + 2, 1, none⟩ = some (.int .i64 0) := Hrr9.out.cell 1
          have r2 : wr.cell? ⟨w.heap.size + 2, 2, none⟩ = some (.string (str [])) := Hrr9.out.cell 2
          have f0 : wr.frozen? ⟨w.heap.size + 2, 0, none⟩ = false := Hrr9.out.frozen 0
          have f1 : wr.frozen? ⟨w.heap.size + 2, 1, none⟩ = false := Hrr9.out.frozen 1
          have f2 : wr.frozen? ⟨w.heap.size + 2, 2, none⟩ = false := Hrr9.out.frozen 2
          have zz := Hrr9.out.lt
          go_wp2
          refine bodyPost_ret (refval_results (n := 0) (Hrr9.out.set3 .zero) rfl rfl) rfl (ValEP.mk' (by rw [HK9.out]; exact if_pos (by simpa using HNB.out.symm)) ?_)
          exact (HSr9.out).set3 (fun h => by omega) _ _ _
        · have Hk : Hid (¬ (a.kind = 0 ∨ b.kind = 0)) := Lib.hid (by simpa using HNB.out.symm)
          have gar : ∀ W, Calls Try.prog 42 #[.string (str [60, 62])] W (fun e w' => e = .returned (.bool false) ∧ W = w') := fun W => refarith_any [60, 62] W
          have gcm := fun W => refCompare_any a b W
          have HD : Hid (F = (truthV (holdsF .ne (cmpV a b)), 0)) := Lib.hid (by rw [HK9.out]; exact if_neg Hk.out)
          obtain ⟨C, hC⟩ : ∃ C, cmpV a b = C := ⟨_, rfl⟩
          rw [hC] at gcm
          have HD : Hid (F = (truthV (holdsF .ne C), 0)) := Lib.hid (by rw [HD.out, hC])
          clear hC
          go_wp2_with (go_at_call 42; refine stopAt ?_)
          unfold Hid
          refine (gar _).mono ?_
          rintro e' wq ⟨rfl, rfl⟩
          go_wp2
          refine wp_region_eq_lit (vs := [(.slice (some ad) 2 ck), (.pointer (some ad)), (valV a), (.slice (some ad) 2 ck), (.pointer (some ⟨ad.block, ad.off + 3, none⟩)), (valV b), (.int .i64 C), (.int .i64 C)]) (by kernel_rfl) (by kernel_rfl) rfl rfl ?_ ?_
          · refine ⟨?_, ?_, ?_, ?_, ?_, ?_, ?_, ?_, trivial⟩
            · intro ac wc hs hd hz hf hw K hK
              have e0 : ac.eval (.tmp 8) = (.slice (some ad) 2 ck) := hf 8 rfl
              clear hd hz hf hw
              simp only [Region.wanted, if_true, Oper.wp, execOp, resolve, List.map_toArray, List.map_cons, List.map_nil, Option.map_some, Option.map_none, e0]
              go_simp
              exact hK _ _ rfl (Same.refl _ _)
            · intro ac wc hs hd hz hf hw K hK
              have e0 : ac.eval (.tmp 106) = (.slice (some ad) 2 ck) := hw 0 rfl
              clear hd hz hf hw
              simp only [Region.wanted, if_true, Oper.wp, execOp, resolve, List.map_toArray, List.map_cons, List.map_nil, Option.map_some, Option.map_none, e0]
              go_simp
              exact hK _ _ rfl (Same.refl _ _)
            · intro ac wc hs hd hz hf hw K hK
              have e0 : ac.eval (.tmp 107) = (.pointer (some ad)) := hw 1 rfl
              have m0 : wc.cell? ad = some (.int .i64 a.kind) := hs.cell (p := ad) trivial d0
              have m1 : wc.cell? ⟨ad.block, ad.off + 1, none⟩ = some (.int .i64 a.n) := hs.cell (p := ⟨ad.block, ad.off + 1, none⟩) trivial d1
              have m2 : wc.cell? ⟨ad.block, ad.off + 2, none⟩ = some (.string (str a.s)) := hs.cell (p := ⟨ad.block, ad.off + 2, none⟩) trivial d2
              clear hd hz hf hw
              simp only [Region.wanted, if_true, Oper.wp, execOp, resolve, List.map_toArray, List.map_cons, List.map_nil, Option.map_some, Option.map_none, e0]
              go_simp
              exact hK _ _ rfl (Same.refl _ _)
            · intro ac wc hs hd hz hf hw K hK
              have e0 : ac.eval (.tmp 8) = (.slice (some ad) 2 ck) := hf 8 rfl
              clear hd hz hf hw
              simp only [Region.wanted, if_true, Oper.wp, execOp, resolve, List.map_toArray, List.map_cons, List.map_nil, Option.map_some, Option.map_none, e0]
              go_simp
              exact hK _ _ rfl (Same.refl _ _)
            · intro ac wc hs hd hz hf hw K hK
              have e0 : ac.eval (.tmp 109) = (.slice (some ad) 2 ck) := hw 3 rfl
              clear hd hz hf hw
              simp only [Region.wanted, if_true, Oper.wp, execOp, resolve, List.map_toArray, List.map_cons, List.map_nil, Option.map_some, Option.map_none, e0]
              go_simp
              exact hK _ _ rfl (Same.refl _ _)
            · intro ac wc hs hd hz hf hw K hK
              have e0 : ac.eval (.tmp 110) = (.pointer (some ⟨ad.block, ad.off + 3, none⟩)) := hw 4 rfl
              have m0 : wc.cell? ⟨ad.block, ad.off + 3, none⟩ = some (.int .i64 b.kind) := hs.cell (p := ⟨ad.block, ad.off + 3, none⟩) trivial b0
              have m1 : wc.cell? ⟨ad.block, ad.off + 4, none⟩ = some (.int .i64 b.n) := hs.cell (p := ⟨ad.block, ad.off + 4, none⟩) trivial b1
              have m2 : wc.cell? ⟨ad.block, ad.off + 5, none⟩ = some (.string (str b.s)) := hs.cell (p := ⟨ad.block, ad.off + 5, none⟩) trivial b2
              clear hd hz hf hw
              simp only [Region.wanted, if_true, Oper.wp, execOp, resolve, List.map_toArray, List.map_cons, List.map_nil, Option.map_some, Option.map_none, e0]
              go_simp
              exact hK _ _ rfl (Same.refl _ _)
            · intro ac wc hs hd hz hf hw K hK
              have e0 : ac.eval (.tmp 108) = (valV a) := hw 2 rfl
              have e1 : ac.eval (.tmp 111) = (valV b) := hw 5 rfl
              clear hd hz hf hw
              simp only [Region.wanted, if_true, Oper.wp, execOp, resolve, List.map_toArray, List.map_cons, List.map_nil, Option.map_some, Option.map_none, e0, e1]
              go_simp
              refine (gcm _).mono ?_
              rintro e wd ⟨rfl, hs2⟩
              exact hK _ _ rfl hs2
            · intro ac wc hs hd hz hf hw K hK
              have e0 : ac.eval (.tmp 112) = (.int .i64 C) := hw 6 rfl
              clear hd hz hf hw
              simp only [Region.wanted, if_true, Oper.wp, execOp, resolve, List.map_toArray, List.map_cons, List.map_nil, Option.map_some, Option.map_none, e0]
              go_simp
              exact hK _ _ rfl (Same.refl _ _)
          · intro wR hsR
            simp only [putAll, Act.put, List.setIfInBounds_toArray, List.set_cons_succ, List.set_cons_zero]
            have k1 := hsR.cell (p := ⟨w.heap.size + 1, 1, none⟩) trivial k1
            have zk := Nat.lt_of_lt_of_le z1 hsR.size
            have HsR := Lib.hid hsR
            clear hsR gar gcm d0 d1 d2 b0 b1 b2 hab
            go_wp2_with (go_at_call 39; refine stopAt ?_)
            unfold Hid
            refine (reftruth_any _ _).mono ?_
            rintro e' w2 ⟨rfl, hS2⟩
            have hSz := HsR.out.trans hS2
            have hrrz := Hrr9.out.keep hSz trivial
            have r0 : w2.cell? ⟨w.heap.size + 2, 0, none⟩ = some (.int .i64 0) := hrrz.cell 0
            have r1 : w2.cell? ⟨w.heap.size + 2, 1, none⟩ = some (.int .i64 0) := hrrz.cell 1
            have r2 : w2.cell? ⟨w.heap.size + 2, 2, none⟩ = some (.string (str [])) := hrrz.cell 2
            have f0 : w2.frozen? ⟨w.heap.size + 2, 0, none⟩ = false := hrrz.frozen 0
            have f1 : w2.frozen? ⟨w.heap.size + 2, 1, none⟩ = false := hrrz.frozen 1
            have f2 : w2.frozen? ⟨w.heap.size + 2, 2, none⟩ = false := hrrz.frozen 2
            have zz := hrrz.lt
            have Hrrz := Lib.hid hrrz
            have HSz := Lib.hid hSz
            clear hrrz hSz
            go_wp2
            refine bodyPost_ret (refval_results (n := 0) (Hrrz.out.set3 (truthV _)) rfl rfl) rfl (ValEP.mk' (by rw [HD.out, show holdsF .ne C = (C != 0) from by unfold holdsF; by_cases h : C = 0 <;> simp [h]]) ?_)
            exact (HSr9.out.trans HSz.out).set3 (fun h => by omega) _ _ _
      · rw [hs] at k1 K hl2 hgo
        obtain ⟨a, b, rfl⟩ : ∃ a b, vs = [a, b] := by
          match vs, hl2 with
          | [a, b], _ => exact ⟨a, b, rfl⟩
        have hga := hgo a (by simp)
        have hgb := hgo b (by simp)
        have hNB : NB = (decide (a.kind = 0) || decide (b.kind = 0)) := by rw [hnb]; simp [nullV]
        have Hga := Lib.hid hga
        have Hgb := Lib.hid hgb
        have HK9 : Hid (F = doesF (opk [60]) [a, b]) := Lib.hid K
        have HNB := Lib.hid hNB
        have hvv := Hown.out.inr
        obtain ⟨ad, rfl, -, d0, d1, d2, b0, b1, b2⟩ := VaR.two hvv
        have hab := World.block_lt_of_cell? wr _ d0
        have Hvv := Lib.hid hvv
        clear K hs hl2 hgo hga hnb hNB hvv hgb
        cases NB
        rotate_right 1
        · have r0 : wr.cell? ⟨w.heap.size + 2, 0, none⟩ = some (.int .i64 0) := Hrr9.out.cell 0
          have r1 : wr.cell? ⟨w.heap.size + 2, 1, none⟩ = some (.int .i64 0) := Hrr9.out.cell 1
          have r2 : wr.cell? ⟨w.heap.size + 2, 2, none⟩ = some (.string (str [])) := Hrr9.out.cell 2
          have f0 : wr.frozen? ⟨w.heap.size + 2, 0, none⟩ = false := Hrr9.out.frozen 0
          have f1 : wr.frozen? ⟨w.heap.size + 2, 1, none⟩ = false := Hrr9.out.frozen 1
          have f2 : wr.frozen? ⟨w.heap.size + 2, 2, none⟩ = false := Hrr9.out.frozen 2
          have zz := Hrr9.out.lt
          go_wp2
          refine bodyPost_ret (refval_results (n := 0) (Hrr9.out.set3 .zero) rfl rfl) rfl (ValEP.mk' (by rw [HK9.out]; exact if_pos (by simpa using HNB.out.symm)) ?_)
          exact (HSr9.out).set3 (fun h => by omega) _ _ _
        · have Hk : Hid (¬ (a.kind = 0 ∨ b.kind = 0)) := Lib.hid (by simpa using HNB.out.symm)
          have gar : ∀ W, Calls Try.prog 42 #[.string (str [60])] W (fun e w' => e = .returned (.bool false) ∧ W = w') := fun W => refarith_any [60] W
          have gcm := fun W => refCompare_any a b W
          have HD : Hid (F = (truthV (holdsF .lt (cmpV a b)), 0)) := Lib.hid (by rw [HK9.out]; exact if_neg Hk.out)
          obtain ⟨C, hC⟩ : ∃ C, cmpV a b = C := ⟨_, rfl⟩
          rw [hC] at gcm
          have HD : Hid (F = (truthV (holdsF .lt C), 0)) := Lib.hid (by rw [HD.out, hC])
          clear hC
          go_wp2_with (go_at_call 42; refine stopAt ?_)
          unfold Hid
          refine (gar _).mono ?_
          rintro e' wq ⟨rfl, rfl⟩
          go_wp2
          refine wp_region_eq_lit (vs := [(.slice (some ad) 2 ck), (.pointer (some ad)), (valV a), (.slice (some ad) 2 ck), (.pointer (some ⟨ad.block, ad.off + 3, none⟩)), (valV b), (.int .i64 C), (.int .i64 C)]) (by kernel_rfl) (by kernel_rfl) rfl rfl ?_ ?_
          · refine ⟨?_, ?_, ?_, ?_, ?_, ?_, ?_, ?_, trivial⟩
            · intro ac wc hs hd hz hf hw K hK
              have e0 : ac.eval (.tmp 8) = (.slice (some ad) 2 ck) := hf 8 rfl
              clear hd hz hf hw
              simp only [Region.wanted, if_true, Oper.wp, execOp, resolve, List.map_toArray, List.map_cons, List.map_nil, Option.map_some, Option.map_none, e0]
              go_simp
              exact hK _ _ rfl (Same.refl _ _)
            · intro ac wc hs hd hz hf hw K hK
              have e0 : ac.eval (.tmp 106) = (.slice (some ad) 2 ck) := hw 0 rfl
              clear hd hz hf hw
              simp only [Region.wanted, if_true, Oper.wp, execOp, resolve, List.map_toArray, List.map_cons, List.map_nil, Option.map_some, Option.map_none, e0]
              go_simp
              exact hK _ _ rfl (Same.refl _ _)
            · intro ac wc hs hd hz hf hw K hK
              have e0 : ac.eval (.tmp 107) = (.pointer (some ad)) := hw 1 rfl
              have m0 : wc.cell? ad = some (.int .i64 a.kind) := hs.cell (p := ad) trivial d0
              have m1 : wc.cell? ⟨ad.block, ad.off + 1, none⟩ = some (.int .i64 a.n) := hs.cell (p := ⟨ad.block, ad.off + 1, none⟩) trivial d1
              have m2 : wc.cell? ⟨ad.block, ad.off + 2, none⟩ = some (.string (str a.s)) := hs.cell (p := ⟨ad.block, ad.off + 2, none⟩) trivial d2
              clear hd hz hf hw
              simp only [Region.wanted, if_true, Oper.wp, execOp, resolve, List.map_toArray, List.map_cons, List.map_nil, Option.map_some, Option.map_none, e0]
              go_simp
              exact hK _ _ rfl (Same.refl _ _)
            · intro ac wc hs hd hz hf hw K hK
              have e0 : ac.eval (.tmp 8) = (.slice (some ad) 2 ck) := hf 8 rfl
              clear hd hz hf hw
              simp only [Region.wanted, if_true, Oper.wp, execOp, resolve, List.map_toArray, List.map_cons, List.map_nil, Option.map_some, Option.map_none, e0]
              go_simp
              exact hK _ _ rfl (Same.refl _ _)
            · intro ac wc hs hd hz hf hw K hK
              have e0 : ac.eval (.tmp 109) = (.slice (some ad) 2 ck) := hw 3 rfl
              clear hd hz hf hw
              simp only [Region.wanted, if_true, Oper.wp, execOp, resolve, List.map_toArray, List.map_cons, List.map_nil, Option.map_some, Option.map_none, e0]
              go_simp
              exact hK _ _ rfl (Same.refl _ _)
            · intro ac wc hs hd hz hf hw K hK
              have e0 : ac.eval (.tmp 110) = (.pointer (some ⟨ad.block, ad.off + 3, none⟩)) := hw 4 rfl
              have m0 : wc.cell? ⟨ad.block, ad.off + 3, none⟩ = some (.int .i64 b.kind) := hs.cell (p := ⟨ad.block, ad.off + 3, none⟩) trivial b0
              have m1 : wc.cell? ⟨ad.block, ad.off + 4, none⟩ = some (.int .i64 b.n) := hs.cell (p := ⟨ad.block, ad.off + 4, none⟩) trivial b1
              have m2 : wc.cell? ⟨ad.block, ad.off + 5, none⟩ = some (.string (str b.s)) := hs.cell (p := ⟨ad.block, ad.off + 5, none⟩) trivial b2
              clear hd hz hf hw
              simp only [Region.wanted, if_true, Oper.wp, execOp, resolve, List.map_toArray, List.map_cons, List.map_nil, Option.map_some, Option.map_none, e0]
              go_simp
              exact hK _ _ rfl (Same.refl _ _)
            · intro ac wc hs hd hz hf hw K hK
              have e0 : ac.eval (.tmp 108) = (valV a) := hw 2 rfl
              have e1 : ac.eval (.tmp 111) = (valV b) := hw 5 rfl
              clear hd hz hf hw
              simp only [Region.wanted, if_true, Oper.wp, execOp, resolve, List.map_toArray, List.map_cons, List.map_nil, Option.map_some, Option.map_none, e0, e1]
              go_simp
              refine (gcm _).mono ?_
              rintro e wd ⟨rfl, hs2⟩
              exact hK _ _ rfl hs2
            · intro ac wc hs hd hz hf hw K hK
              have e0 : ac.eval (.tmp 112) = (.int .i64 C) := hw 6 rfl
              clear hd hz hf hw
              simp only [Region.wanted, if_true, Oper.wp, execOp, resolve, List.map_toArray, List.map_cons, List.map_nil, Option.map_some, Option.map_none, e0]
              go_simp
              exact hK _ _ rfl (Same.refl _ _)
          · intro wR hsR
            simp only [putAll, Act.put, List.setIfInBounds_toArray, List.set_cons_succ, List.set_cons_zero]
            have k1 := hsR.cell (p := ⟨w.heap.size + 1, 1, none⟩) trivial k1
            have zk := Nat.lt_of_lt_of_le z1 hsR.size
            have HsR := Lib.hid hsR
            clear hsR gar gcm d0 d1 d2 b0 b1 b2 hab
            go_wp2_with (go_at_call 39; refine stopAt ?_)
            unfold Hid
            refine (reftruth_any _ _).mono ?_
            rintro e' w2 ⟨rfl, hS2⟩
            have hSz := HsR.out.trans hS2
            have hrrz := Hrr9.out.keep hSz trivial
            have r0 : w2.cell? ⟨w.heap.size + 2, 0, none⟩ = some (.int .i64 0) := hrrz.cell 0
            have r1 : w2.cell? ⟨w.heap.size + 2, 1, none⟩ = some (.int .i64 0) := hrrz.cell 1
            have r2 : w2.cell? ⟨w.heap.size + 2, 2, none⟩ = some (.string (str [])) := hrrz.cell 2
            have f0 : w2.frozen? ⟨w.heap.size + 2, 0, none⟩ = false := hrrz.frozen 0
            have f1 : w2.frozen? ⟨w.heap.size + 2, 1, none⟩ = false := hrrz.frozen 1
            have f2 : w2.frozen? ⟨w.heap.size + 2, 2, none⟩ = false := hrrz.frozen 2
            have zz := hrrz.lt
            have Hrrz := Lib.hid hrrz
            have HSz := Lib.hid hSz
            clear hrrz hSz
            go_wp2
            refine bodyPost_ret (refval_results (n := 0) (Hrrz.out.set3 (truthV _)) rfl rfl) rfl (ValEP.mk' (by rw [HD.out]; rfl) ?_)
            exact (HSr9.out.trans HSz.out).set3 (fun h => by omega) _ _ _
      · rw [hs] at k1 K hl2 hgo
        obtain ⟨a, b, rfl⟩ : ∃ a b, vs = [a, b] := by
          match vs, hl2 with
          | [a, b], _ => exact ⟨a, b, rfl⟩
        have hga := hgo a (by simp)
        have hgb := hgo b (by simp)
        have hNB : NB = (decide (a.kind = 0) || decide (b.kind = 0)) := by rw [hnb]; simp [nullV]
        have Hga := Lib.hid hga
        have Hgb := Lib.hid hgb
        have HK9 : Hid (F = doesF (opk [60, 61]) [a, b]) := Lib.hid K
        have HNB := Lib.hid hNB
        have hvv := Hown.out.inr
        obtain ⟨ad, rfl, -, d0, d1, d2, b0, b1, b2⟩ := VaR.two hvv
        have hab := World.block_lt_of_cell? wr _ d0
        have Hvv := Lib.hid hvv
        clear K hs hl2 hgo hga hnb hNB hvv hgb
        cases NB
        rotate_right 1
        · have r0 : wr.cell? ⟨w.heap.size + 2, 0, none⟩ = some (.int .i64 0) := Hrr9.out.cell 0
          have r1 : wr.cell? ⟨w.heap.size + 2, 1, none⟩ = some (.int .i64 0) := Hrr9.out.cell 1
          have r2 : wr.cell? ⟨w.heap.size + 2, 2, none⟩ = some (.string (str [])) := Hrr9.out.cell 2
          have f0 : wr.frozen? ⟨w.heap.size + 2, 0, none⟩ = false := Hrr9.out.frozen 0
          have f1 : wr.frozen? ⟨w.heap.size + 2, 1, none⟩ = false := Hrr9.out.frozen 1
          have f2 : wr.frozen? ⟨w.heap.size + 2, 2, none⟩ = false := Hrr9.out.frozen 2
          have zz := Hrr9.out.lt
          go_wp2
          refine bodyPost_ret (refval_results (n := 0) (Hrr9.out.set3 .zero) rfl rfl) rfl (ValEP.mk' (by rw [HK9.out]; exact if_pos (by simpa using HNB.out.symm)) ?_)
          exact (HSr9.out).set3 (fun h => by omega) _ _ _
        · have Hk : Hid (¬ (a.kind = 0 ∨ b.kind = 0)) := Lib.hid (by simpa using HNB.out.symm)
          have gar : ∀ W, Calls Try.prog 42 #[.string (str [60, 61])] W (fun e w' => e = .returned (.bool false) ∧ W = w') := fun W => refarith_any [60, 61] W
          have gcm := fun W => refCompare_any a b W
          have HD : Hid (F = (truthV (holdsF .le (cmpV a b)), 0)) := Lib.hid (by rw [HK9.out]; exact if_neg Hk.out)
          obtain ⟨C, hC⟩ : ∃ C, cmpV a b = C := ⟨_, rfl⟩
          rw [hC] at gcm
          have HD : Hid (F = (truthV (holdsF .le C), 0)) := Lib.hid (by rw [HD.out, hC])
          clear hC
          go_wp2_with (go_at_call 42; refine stopAt ?_)
          unfold Hid
          refine (gar _).mono ?_
          rintro e' wq ⟨rfl, rfl⟩
          go_wp2
          refine wp_region_eq_lit (vs := [(.slice (some ad) 2 ck), (.pointer (some ad)), (valV a), (.slice (some ad) 2 ck), (.pointer (some ⟨ad.block, ad.off + 3, none⟩)), (valV b), (.int .i64 C), (.int .i64 C)]) (by kernel_rfl) (by kernel_rfl) rfl rfl ?_ ?_
          · refine ⟨?_, ?_, ?_, ?_, ?_, ?_, ?_, ?_, trivial⟩
            · intro ac wc hs hd hz hf hw K hK
              have e0 : ac.eval (.tmp 8) = (.slice (some ad) 2 ck) := hf 8 rfl
              clear hd hz hf hw
              simp only [Region.wanted, if_true, Oper.wp, execOp, resolve, List.map_toArray, List.map_cons, List.map_nil, Option.map_some, Option.map_none, e0]
              go_simp
              exact hK _ _ rfl (Same.refl _ _)
            · intro ac wc hs hd hz hf hw K hK
              have e0 : ac.eval (.tmp 106) = (.slice (some ad) 2 ck) := hw 0 rfl
              clear hd hz hf hw
              simp only [Region.wanted, if_true, Oper.wp, execOp, resolve, List.map_toArray, List.map_cons, List.map_nil, Option.map_some, Option.map_none, e0]
              go_simp
              exact hK _ _ rfl (Same.refl _ _)
            · intro ac wc hs hd hz hf hw K hK
              have e0 : ac.eval (.tmp 107) = (.pointer (some ad)) := hw 1 rfl
              have m0 : wc.cell? ad = some (.int .i64 a.kind) := hs.cell (p := ad) trivial d0
              have m1 : wc.cell? ⟨ad.block, ad.off + 1, none⟩ = some (.int .i64 a.n) := hs.cell (p := ⟨ad.block, ad.off + 1, none⟩) trivial d1
              have m2 : wc.cell? ⟨ad.block, ad.off + 2, none⟩ = some (.string (str a.s)) := hs.cell (p := ⟨ad.block, ad.off + 2, none⟩) trivial d2
              clear hd hz hf hw
              simp only [Region.wanted, if_true, Oper.wp, execOp, resolve, List.map_toArray, List.map_cons, List.map_nil, Option.map_some, Option.map_none, e0]
              go_simp
              exact hK _ _ rfl (Same.refl _ _)
            · intro ac wc hs hd hz hf hw K hK
              have e0 : ac.eval (.tmp 8) = (.slice (some ad) 2 ck) := hf 8 rfl
              clear hd hz hf hw
              simp only [Region.wanted, if_true, Oper.wp, execOp, resolve, List.map_toArray, List.map_cons, List.map_nil, Option.map_some, Option.map_none, e0]
              go_simp
              exact hK _ _ rfl (Same.refl _ _)
            · intro ac wc hs hd hz hf hw K hK
              have e0 : ac.eval (.tmp 109) = (.slice (some ad) 2 ck) := hw 3 rfl
              clear hd hz hf hw
              simp only [Region.wanted, if_true, Oper.wp, execOp, resolve, List.map_toArray, List.map_cons, List.map_nil, Option.map_some, Option.map_none, e0]
              go_simp
              exact hK _ _ rfl (Same.refl _ _)
            · intro ac wc hs hd hz hf hw K hK
              have e0 : ac.eval (.tmp 110) = (.pointer (some ⟨ad.block, ad.off + 3, none⟩)) := hw 4 rfl
              have m0 : wc.cell? ⟨ad.block, ad.off + 3, none⟩ = some (.int .i64 b.kind) := hs.cell (p := ⟨ad.block, ad.off + 3, none⟩) trivial b0
              have m1 : wc.cell? ⟨ad.block, ad.off + 4, none⟩ = some (.int .i64 b.n) := hs.cell (p := ⟨ad.block, ad.off + 4, none⟩) trivial b1
              have m2 : wc.cell? ⟨ad.block, ad.off + 5, none⟩ = some (.string (str b.s)) := hs.cell (p := ⟨ad.block, ad.off + 5, none⟩) trivial b2
              clear hd hz hf hw
              simp only [Region.wanted, if_true, Oper.wp, execOp, resolve, List.map_toArray, List.map_cons, List.map_nil, Option.map_some, Option.map_none, e0]
              go_simp
              exact hK _ _ rfl (Same.refl _ _)
            · intro ac wc hs hd hz hf hw K hK
              have e0 : ac.eval (.tmp 108) = (valV a) := hw 2 rfl
              have e1 : ac.eval (.tmp 111) = (valV b) := hw 5 rfl
              clear hd hz hf hw
              simp only [Region.wanted, if_true, Oper.wp, execOp, resolve, List.map_toArray, List.map_cons, List.map_nil, Option.map_some, Option.map_none, e0, e1]
              go_simp
              refine (gcm _).mono ?_
              rintro e wd ⟨rfl, hs2⟩
              exact hK _ _ rfl hs2
            · intro ac wc hs hd hz hf hw K hK
              have e0 : ac.eval (.tmp 112) = (.int .i64 C) := hw 6 rfl
              clear hd hz hf hw
              simp only [Region.wanted, if_true, Oper.wp, execOp, resolve, List.map_toArray, List.map_cons, List.map_nil, Option.map_some, Option.map_none, e0]
              go_simp
              exact hK _ _ rfl (Same.refl _ _)
          · intro wR hsR
            simp only [putAll, Act.put, List.setIfInBounds_toArray, List.set_cons_succ, List.set_cons_zero]
            have k1 := hsR.cell (p := ⟨w.heap.size + 1, 1, none⟩) trivial k1
            have zk := Nat.lt_of_lt_of_le z1 hsR.size
            have HsR := Lib.hid hsR
            clear hsR gar gcm d0 d1 d2 b0 b1 b2 hab
            go_wp2_with (go_at_call 39; refine stopAt ?_)
            unfold Hid
            refine (reftruth_any _ _).mono ?_
            rintro e' w2 ⟨rfl, hS2⟩
            have hSz := HsR.out.trans hS2
            have hrrz := Hrr9.out.keep hSz trivial
            have r0 : w2.cell? ⟨w.heap.size + 2, 0, none⟩ = some (.int .i64 0) := hrrz.cell 0
            have r1 : w2.cell? ⟨w.heap.size + 2, 1, none⟩ = some (.int .i64 0) := hrrz.cell 1
            have r2 : w2.cell? ⟨w.heap.size + 2, 2, none⟩ = some (.string (str [])) := hrrz.cell 2
            have f0 : w2.frozen? ⟨w.heap.size + 2, 0, none⟩ = false := hrrz.frozen 0
            have f1 : w2.frozen? ⟨w.heap.size + 2, 1, none⟩ = false := hrrz.frozen 1
            have f2 : w2.frozen? ⟨w.heap.size + 2, 2, none⟩ = false := hrrz.frozen 2
            have zz := hrrz.lt
            have Hrrz := Lib.hid hrrz
            have HSz := Lib.hid hSz
            clear hrrz hSz
            go_wp2
            refine bodyPost_ret (refval_results (n := 0) (Hrrz.out.set3 (truthV _)) rfl rfl) rfl (ValEP.mk' (by rw [HD.out]; rfl) ?_)
            exact (HSr9.out.trans HSz.out).set3 (fun h => by omega) _ _ _
      · rw [hs] at k1 K hl2 hgo
        obtain ⟨a, b, rfl⟩ : ∃ a b, vs = [a, b] := by
          match vs, hl2 with
          | [a, b], _ => exact ⟨a, b, rfl⟩
        have hga := hgo a (by simp)
        have hgb := hgo b (by simp)
        have hNB : NB = (decide (a.kind = 0) || decide (b.kind = 0)) := by rw [hnb]; simp [nullV]
        have Hga := Lib.hid hga
        have Hgb := Lib.hid hgb
        have HK9 : Hid (F = doesF (opk [62]) [a, b]) := Lib.hid K
        have HNB := Lib.hid hNB
        have hvv := Hown.out.inr
        obtain ⟨ad, rfl, -, d0, d1, d2, b0, b1, b2⟩ := VaR.two hvv
        have hab := World.block_lt_of_cell? wr _ d0
        have Hvv := Lib.hid hvv
        clear K hs hl2 hgo hga hnb hNB hvv hgb
        cases NB
        rotate_right 1
        · have r0 : wr.cell? ⟨w.heap.size + 2, 0, none⟩ = some (.int .i64 0) := Hrr9.out.cell 0
          have r1 : wr.cell? ⟨w.heap.size + 2, 1, none⟩ = some (.int .i64 0) := Hrr9.out.cell 1
          have r2 : wr.cell? ⟨w.heap.size + 2, 2, none⟩ = some (.string (str [])) := Hrr9.out.cell 2
          have f0 : wr.frozen? ⟨w.heap.size + 2, 0, none⟩ = false := Hrr9.out.frozen 0
          have f1 : wr.frozen? ⟨w.heap.size + 2, 1, none⟩ = false := Hrr9.out.frozen 1
          have f2 : wr.frozen? ⟨w.heap.size + 2, 2, none⟩ = false := Hrr9.out.frozen 2
          have zz := Hrr9.out.lt
          go_wp2
          refine bodyPost_ret (refval_results (n := 0) (Hrr9.out.set3 .zero) rfl rfl) rfl (ValEP.mk' (by rw [HK9.out]; exact if_pos (by simpa using HNB.out.symm)) ?_)
          exact (HSr9.out).set3 (fun h => by omega) _ _ _
        · have Hk : Hid (¬ (a.kind = 0 ∨ b.kind = 0)) := Lib.hid (by simpa using HNB.out.symm)
          have gar : ∀ W, Calls Try.prog 42 #[.string (str [62])] W (fun e w' => e = .returned (.bool false) ∧ W = w') := fun W => refarith_any [62] W
          have gcm := fun W => refCompare_any a b W
          have HD : Hid (F = (truthV (holdsF .gt (cmpV a b)), 0)) := Lib.hid (by rw [HK9.out]; exact if_neg Hk.out)
          obtain ⟨C, hC⟩ : ∃ C, cmpV a b = C := ⟨_, rfl⟩
          rw [hC] at gcm
          have HD : Hid (F = (truthV (holdsF .gt C), 0)) := Lib.hid (by rw [HD.out, hC])
          clear hC
          go_wp2_with (go_at_call 42; refine stopAt ?_)
          unfold Hid
          refine (gar _).mono ?_
          rintro e' wq ⟨rfl, rfl⟩
          go_wp2
          refine wp_region_eq_lit (vs := [(.slice (some ad) 2 ck), (.pointer (some ad)), (valV a), (.slice (some ad) 2 ck), (.pointer (some ⟨ad.block, ad.off + 3, none⟩)), (valV b), (.int .i64 C), (.int .i64 C)]) (by kernel_rfl) (by kernel_rfl) rfl rfl ?_ ?_
          · refine ⟨?_, ?_, ?_, ?_, ?_, ?_, ?_, ?_, trivial⟩
            · intro ac wc hs hd hz hf hw K hK
              have e0 : ac.eval (.tmp 8) = (.slice (some ad) 2 ck) := hf 8 rfl
              clear hd hz hf hw
              simp only [Region.wanted, if_true, Oper.wp, execOp, resolve, List.map_toArray, List.map_cons, List.map_nil, Option.map_some, Option.map_none, e0]
              go_simp
              exact hK _ _ rfl (Same.refl _ _)
            · intro ac wc hs hd hz hf hw K hK
              have e0 : ac.eval (.tmp 106) = (.slice (some ad) 2 ck) := hw 0 rfl
              clear hd hz hf hw
              simp only [Region.wanted, if_true, Oper.wp, execOp, resolve, List.map_toArray, List.map_cons, List.map_nil, Option.map_some, Option.map_none, e0]
              go_simp
              exact hK _ _ rfl (Same.refl _ _)
            · intro ac wc hs hd hz hf hw K hK
              have e0 : ac.eval (.tmp 107) = (.pointer (some ad)) := hw 1 rfl
              have m0 : wc.cell? ad = some (.int .i64 a.kind) := hs.cell (p := ad) trivial d0
              have m1 : wc.cell? ⟨ad.block, ad.off + 1, none⟩ = some (.int .i64 a.n) := hs.cell (p := ⟨ad.block, ad.off + 1, none⟩) trivial d1
              have m2 : wc.cell? ⟨ad.block, ad.off + 2, none⟩ = some (.string (str a.s)) := hs.cell (p := ⟨ad.block, ad.off + 2, none⟩) trivial d2
              clear hd hz hf hw
              simp only [Region.wanted, if_true, Oper.wp, execOp, resolve, List.map_toArray, List.map_cons, List.map_nil, Option.map_some, Option.map_none, e0]
              go_simp
              exact hK _ _ rfl (Same.refl _ _)
            · intro ac wc hs hd hz hf hw K hK
              have e0 : ac.eval (.tmp 8) = (.slice (some ad) 2 ck) := hf 8 rfl
              clear hd hz hf hw
              simp only [Region.wanted, if_true, Oper.wp, execOp, resolve, List.map_toArray, List.map_cons, List.map_nil, Option.map_some, Option.map_none, e0]
              go_simp
              exact hK _ _ rfl (Same.refl _ _)
            · intro ac wc hs hd hz hf hw K hK
              have e0 : ac.eval (.tmp 109) = (.slice (some ad) 2 ck) := hw 3 rfl
              clear hd hz hf hw
              simp only [Region.wanted, if_true, Oper.wp, execOp, resolve, List.map_toArray, List.map_cons, List.map_nil, Option.map_some, Option.map_none, e0]
              go_simp
              exact hK _ _ rfl (Same.refl _ _)
            · intro ac wc hs hd hz hf hw K hK
              have e0 : ac.eval (.tmp 110) = (.pointer (some ⟨ad.block, ad.off + 3, none⟩)) := hw 4 rfl
              have m0 : wc.cell? ⟨ad.block, ad.off + 3, none⟩ = some (.int .i64 b.kind) := hs.cell (p := ⟨ad.block, ad.off + 3, none⟩) trivial b0
              have m1 : wc.cell? ⟨ad.block, ad.off + 4, none⟩ = some (.int .i64 b.n) := hs.cell (p := ⟨ad.block, ad.off + 4, none⟩) trivial b1
              have m2 : wc.cell? ⟨ad.block, ad.off + 5, none⟩ = some (.string (str b.s)) := hs.cell (p := ⟨ad.block, ad.off + 5, none⟩) trivial b2
              clear hd hz hf hw
              simp only [Region.wanted, if_true, Oper.wp, execOp, resolve, List.map_toArray, List.map_cons, List.map_nil, Option.map_some, Option.map_none, e0]
              go_simp
              exact hK _ _ rfl (Same.refl _ _)
            · intro ac wc hs hd hz hf hw K hK
              have e0 : ac.eval (.tmp 108) = (valV a) := hw 2 rfl
              have e1 : ac.eval (.tmp 111) = (valV b) := hw 5 rfl
              clear hd hz hf hw
              simp only [Region.wanted, if_true, Oper.wp, execOp, resolve, List.map_toArray, List.map_cons, List.map_nil, Option.map_some, Option.map_none, e0, e1]
              go_simp
              refine (gcm _).mono ?_
              rintro e wd ⟨rfl, hs2⟩
              exact hK _ _ rfl hs2
            · intro ac wc hs hd hz hf hw K hK
              have e0 : ac.eval (.tmp 112) = (.int .i64 C) := hw 6 rfl
              clear hd hz hf hw
              simp only [Region.wanted, if_true, Oper.wp, execOp, resolve, List.map_toArray, List.map_cons, List.map_nil, Option.map_some, Option.map_none, e0]
              go_simp
              exact hK _ _ rfl (Same.refl _ _)
          · intro wR hsR
            simp only [putAll, Act.put, List.setIfInBounds_toArray, List.set_cons_succ, List.set_cons_zero]
            have k1 := hsR.cell (p := ⟨w.heap.size + 1, 1, none⟩) trivial k1
            have zk := Nat.lt_of_lt_of_le z1 hsR.size
            have HsR := Lib.hid hsR
            clear hsR gar gcm d0 d1 d2 b0 b1 b2 hab
            go_wp2_with (go_at_call 39; refine stopAt ?_)
            unfold Hid
            refine (reftruth_any _ _).mono ?_
            rintro e' w2 ⟨rfl, hS2⟩
            have hSz := HsR.out.trans hS2
            have hrrz := Hrr9.out.keep hSz trivial
            have r0 : w2.cell? ⟨w.heap.size + 2, 0, none⟩ = some (.int .i64 0) := hrrz.cell 0
            have r1 : w2.cell? ⟨w.heap.size + 2, 1, none⟩ = some (.int .i64 0) := hrrz.cell 1
            have r2 : w2.cell? ⟨w.heap.size + 2, 2, none⟩ = some (.string (str [])) := hrrz.cell 2
            have f0 : w2.frozen? ⟨w.heap.size + 2, 0, none⟩ = false := hrrz.frozen 0
            have f1 : w2.frozen? ⟨w.heap.size + 2, 1, none⟩ = false := hrrz.frozen 1
            have f2 : w2.frozen? ⟨w.heap.size + 2, 2, none⟩ = false := hrrz.frozen 2
            have zz := hrrz.lt
            have Hrrz := Lib.hid hrrz
            have HSz := Lib.hid hSz
            clear hrrz hSz
            go_wp2
            refine bodyPost_ret (refval_results (n := 0) (Hrrz.out.set3 (truthV _)) rfl rfl) rfl (ValEP.mk' (by rw [HD.out]; rfl) ?_)
            exact (HSr9.out.trans HSz.out).set3 (fun h => by omega) _ _ _
      · rw [hs] at k1 K hl2 hgo
        obtain ⟨a, b, rfl⟩ : ∃ a b, vs = [a, b] := by
          match vs, hl2 with
          | [a, b], _ => exact ⟨a, b, rfl⟩
        have hga := hgo a (by simp)
        have hgb := hgo b (by simp)
        have hNB : NB = (decide (a.kind = 0) || decide (b.kind = 0)) := by rw [hnb]; simp [nullV]
        have Hga := Lib.hid hga
        have Hgb := Lib.hid hgb
        have HK9 : Hid (F = doesF (opk [62, 61]) [a, b]) := Lib.hid K
        have HNB := Lib.hid hNB
        have hvv := Hown.out.inr
        obtain ⟨ad, rfl, -, d0, d1, d2, b0, b1, b2⟩ := VaR.two hvv
        have hab := World.block_lt_of_cell? wr _ d0
        have Hvv := Lib.hid hvv
        clear K hs hl2 hgo hga hnb hNB hvv hgb
        cases NB
        rotate_right 1
        · have r0 : wr.cell? ⟨w.heap.size + 2, 0, none⟩ = some (.int .i64 0) := Hrr9.out.cell 0
          have r1 : wr.cell? ⟨w.heap.size + 2, 1, none⟩ = some (.int .i64 0) := Hrr9.out.cell 1
          have r2 : wr.cell? ⟨w.heap.size + 2, 2, none⟩ = some (.string (str [])) := Hrr9.out.cell 2
          have f0 : wr.frozen? ⟨w.heap.size + 2, 0, none⟩ = false := Hrr9.out.frozen 0
          have f1 : wr.frozen? ⟨w.heap.size + 2, 1, none⟩ = false := Hrr9.out.frozen 1
          have f2 : wr.frozen? ⟨w.heap.size + 2, 2, none⟩ = false := Hrr9.out.frozen 2
          have zz := Hrr9.out.lt
          go_wp2
          refine bodyPost_ret (refval_results (n := 0) (Hrr9.out.set3 .zero) rfl rfl) rfl (ValEP.mk' (by rw [HK9.out]; exact if_pos (by simpa using HNB.out.symm)) ?_)
          exact (HSr9.out).set3 (fun h => by omega) _ _ _
        · have Hk : Hid (¬ (a.kind = 0 ∨ b.kind = 0)) := Lib.hid (by simpa using HNB.out.symm)
          have gar : ∀ W, Calls Try.prog 42 #[.string (str [62, 61])] W (fun e w' => e = .returned (.bool false) ∧ W = w') := fun W => refarith_any [62, 61] W
          have gcm := fun W => refCompare_any a b W
          have HD : Hid (F = (truthV (holdsF .ge (cmpV a b)), 0)) := Lib.hid (by rw [HK9.out]; exact if_neg Hk.out)
          obtain ⟨C, hC⟩ : ∃ C, cmpV a b = C := ⟨_, rfl⟩
          rw [hC] at gcm
          have HD : Hid (F = (truthV (holdsF .ge C), 0)) := Lib.hid (by rw [HD.out, hC])
          clear hC
          go_wp2_with (go_at_call 42; refine stopAt ?_)
          unfold Hid
          refine (gar _).mono ?_
          rintro e' wq ⟨rfl, rfl⟩
          go_wp2
          refine wp_region_eq_lit (vs := [(.slice (some ad) 2 ck), (.pointer (some ad)), (valV a), (.slice (some ad) 2 ck), (.pointer (some ⟨ad.block, ad.off + 3, none⟩)), (valV b), (.int .i64 C), (.int .i64 C)]) (by kernel_rfl) (by kernel_rfl) rfl rfl ?_ ?_
          · refine ⟨?_, ?_, ?_, ?_, ?_, ?_, ?_, ?_, trivial⟩
            · intro ac wc hs hd hz hf hw K hK
              have e0 : ac.eval (.tmp 8) = (.slice (some ad) 2 ck) := hf 8 rfl
              clear hd hz hf hw
              simp only [Region.wanted, if_true, Oper.wp, execOp, resolve, List.map_toArray, List.map_cons, List.map_nil, Option.map_some, Option.map_none, e0]
              go_simp
              exact hK _ _ rfl (Same.refl _ _)
            · intro ac wc hs hd hz hf hw K hK
              have e0 : ac.eval (.tmp 106) = (.slice (some ad) 2 ck) := hw 0 rfl
              clear hd hz hf hw
              simp only [Region.wanted, if_true, Oper.wp, execOp, resolve, List.map_toArray, List.map_cons, List.map_nil, Option.map_some, Option.map_none, e0]
              go_simp
              exact hK _ _ rfl (Same.refl _ _)
            · intro ac wc hs hd hz hf hw K hK
              have e0 : ac.eval (.tmp 107) = (.pointer (some ad)) := hw 1 rfl
              have m0 : wc.cell? ad = some (.int .i64 a.kind) := hs.cell (p := ad) trivial d0
              have m1 : wc.cell? ⟨ad.block, ad.off + 1, none⟩ = some (.int .i64 a.n) := hs.cell (p := ⟨ad.block, ad.off + 1, none⟩) trivial d1
              have m2 : wc.cell? ⟨ad.block, ad.off + 2, none⟩ = some (.string (str a.s)) := hs.cell (p := ⟨ad.block, ad.off + 2, none⟩) trivial d2
              clear hd hz hf hw
              simp only [Region.wanted, if_true, Oper.wp, execOp, resolve, List.map_toArray, List.map_cons, List.map_nil, Option.map_some, Option.map_none, e0]
              go_simp
              exact hK _ _ rfl (Same.refl _ _)
            · intro ac wc hs hd hz hf hw K hK
              have e0 : ac.eval (.tmp 8) = (.slice (some ad) 2 ck) := hf 8 rfl
              clear hd hz hf hw
              simp only [Region.wanted, if_true, Oper.wp, execOp, resolve, List.map_toArray, List.map_cons, List.map_nil, Option.map_some, Option.map_none, e0]
              go_simp
              exact hK _ _ rfl (Same.refl _ _)
            · intro ac wc hs hd hz hf hw K hK
              have e0 : ac.eval (.tmp 109) = (.slice (some ad) 2 ck) := hw 3 rfl
              clear hd hz hf hw
              simp only [Region.wanted, if_true, Oper.wp, execOp, resolve, List.map_toArray, List.map_cons, List.map_nil, Option.map_some, Option.map_none, e0]
              go_simp
              exact hK _ _ rfl (Same.refl _ _)
            · intro ac wc hs hd hz hf hw K hK
              have e0 : ac.eval (.tmp 110) = (.pointer (some ⟨ad.block, ad.off + 3, none⟩)) := hw 4 rfl
              have m0 : wc.cell? ⟨ad.block, ad.off + 3, none⟩ = some (.int .i64 b.kind) := hs.cell (p := ⟨ad.block, ad.off + 3, none⟩) trivial b0
              have m1 : wc.cell? ⟨ad.block, ad.off + 4, none⟩ = some (.int .i64 b.n) := hs.cell (p := ⟨ad.block, ad.off + 4, none⟩) trivial b1
              have m2 : wc.cell? ⟨ad.block, ad.off + 5, none⟩ = some (.string (str b.s)) := hs.cell (p := ⟨ad.block, ad.off + 5, none⟩) trivial b2
              clear hd hz hf hw
              simp only [Region.wanted, if_true, Oper.wp, execOp, resolve, List.map_toArray, List.map_cons, List.map_nil, Option.map_some, Option.map_none, e0]
              go_simp
              exact hK _ _ rfl (Same.refl _ _)
            · intro ac wc hs hd hz hf hw K hK
              have e0 : ac.eval (.tmp 108) = (valV a) := hw 2 rfl
              have e1 : ac.eval (.tmp 111) = (valV b) := hw 5 rfl
              clear hd hz hf hw
              simp only [Region.wanted, if_true, Oper.wp, execOp, resolve, List.map_toArray, List.map_cons, List.map_nil, Option.map_some, Option.map_none, e0, e1]
              go_simp
              refine (gcm _).mono ?_
              rintro e wd ⟨rfl, hs2⟩
              exact hK _ _ rfl hs2
            · intro ac wc hs hd hz hf hw K hK
              have e0 : ac.eval (.tmp 112) = (.int .i64 C) := hw 6 rfl
              clear hd hz hf hw
              simp only [Region.wanted, if_true, Oper.wp, execOp, resolve, List.map_toArray, List.map_cons, List.map_nil, Option.map_some, Option.map_none, e0]
              go_simp
              exact hK _ _ rfl (Same.refl _ _)
          · intro wR hsR
            simp only [putAll, Act.put, List.setIfInBounds_toArray, List.set_cons_succ, List.set_cons_zero]
            have k1 := hsR.cell (p := ⟨w.heap.size + 1, 1, none⟩) trivial k1
            have zk := Nat.lt_of_lt_of_le z1 hsR.size
            have HsR := Lib.hid hsR
            clear hsR gar gcm d0 d1 d2 b0 b1 b2 hab
            go_wp2_with (go_at_call 39; refine stopAt ?_)
            unfold Hid
            refine (reftruth_any _ _).mono ?_
            rintro e' w2 ⟨rfl, hS2⟩
            have hSz := HsR.out.trans hS2
            have hrrz := Hrr9.out.keep hSz trivial
            have r0 : w2.cell? ⟨w.heap.size + 2, 0, none⟩ = some (.int .i64 0) := hrrz.cell 0
            have r1 : w2.cell? ⟨w.heap.size + 2, 1, none⟩ = some (.int .i64 0) := hrrz.cell 1
            have r2 : w2.cell? ⟨w.heap.size + 2, 2, none⟩ = some (.string (str [])) := hrrz.cell 2
            have f0 : w2.frozen? ⟨w.heap.size + 2, 0, none⟩ = false := hrrz.frozen 0
            have f1 : w2.frozen? ⟨w.heap.size + 2, 1, none⟩ = false := hrrz.frozen 1
            have f2 : w2.frozen? ⟨w.heap.size + 2, 2, none⟩ = false := hrrz.frozen 2
            have zz := hrrz.lt
            have Hrrz := Lib.hid hrrz
            have HSz := Lib.hid hSz
            clear hrrz hSz
            go_wp2
            refine bodyPost_ret (refval_results (n := 0) (Hrrz.out.set3 (truthV _)) rfl rfl) rfl (ValEP.mk' (by rw [HD.out]; rfl) ?_)
            exact (HSr9.out.trans HSz.out).set3 (fun h => by omega) _ _ _
/-- The document's value. -/
theorem refvalue_any (t : TabT) (cols : List Clm) (row : List Val) (S : Nat → Prop) (hri : ∀ x ∈ row, i64B x.n = true) (hmr : mayRowB cols row = true) : ∀ (e : Ex), e.size ≤ 100000 → ExI e → (typedF cols e).2 = 0 → ∀ (u cu rv : Value) (w : World), ExR w S u e → TabR w S cu t cols → VaR w S rv row →
    Calls Try.prog 31 #[tabV cu t, rv, exV u e] w (ValEP (evalF cols row e) w) := by
  have hrl : row.length = cols.length := by unfold mayRowB at hmr; simp only [Bool.and_eq_true, decide_eq_true_eq] at hmr; exact hmr.1
  apply Ex.ind2 (P := fun e => e.size ≤ 100000 → ExI e → (typedF cols e).2 = 0 → ∀ (u cu rv : Value) (w : World), ExR w S u e → TabR w S cu t cols → VaR w S rv row → Calls Try.prog 31 #[tabV cu t, rv, exV u e] w (ValEP (evalF cols row e) w))
  intro e ih hsz hei hty u cu rv w hv ht hrow
  by_cases h1 : e.kind = 1
  · exact value_value u cu rv t cols row e S w hv ht hrow hrl h1
  by_cases h2 : e.kind = 2
  · exact value_name u cu rv t cols row e S w hv ht hrow hrl h2 hty
  by_cases h3 : e.kind = 3
  · exact value_ops u cu rv t cols row e S w hv ht hrow hrl h3 hmr hsz hty hri hei fun a ha h0 u cu rv w hv ht hrow => ih a ha (by
      have := size_mem ha
      obtain ⟨k, s, v, l⟩ := e
      simp only [Ex.size] at hsz
      exact Nat.le_trans this (by show sizeL l ≤ _; omega)) (hei.arg a ha) h0 u cu rv w hv ht hrow
  · rw [typedF_eq, if_neg h1, if_neg h2, if_neg h3] at hty
    cases hty
end Go.Proofs.Ytakbikibahhepaa
