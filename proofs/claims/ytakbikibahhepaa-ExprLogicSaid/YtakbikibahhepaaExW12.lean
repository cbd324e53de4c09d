/-
  The walk of expr.eval.
-/
import Derived.Test.YtakbikibahhepaaExW11
set_option linter.unusedSimpArgs false
set_option linter.unusedVariables false
namespace Go.Proofs.Ytakbikibahhepaa
open Go.RowKit

/-- Numbers of 64 bits at every part. -/
inductive ExI : Ex → Prop where
  | mk {k : Int} {s : List UInt8} {v : Val} {l : List Ex} (h : i64B v.n = true) (hl : ∀ a ∈ l, ExI a) : ExI (.mk k s v l)
theorem ExI.val {e : Ex} (h : ExI e) : i64B e.v.n = true := by cases h with | mk h _ => exact h
theorem ExI.arg {e : Ex} (h : ExI e) : ∀ a ∈ e.args, ExI a := by cases h with | mk _ h => exact h
theorem fit_i64 (n : Int) : i64B (fitF n).1 = true := by
  unfold fitF
  split
  · assumption
  · rfl
theorem reck_i64 {o : Opk} {a b : Int} (ha : i64B a = true) (hb : i64B b = true) : i64B (reckF o a b).1 = true := by
  unfold reckF
  split
  · exact fit_i64 _
  · exact fit_i64 _
  · exact fit_i64 _
  · split
    · rfl
    · rename_i h0
      have := tmod_fit ha hb h0
      simpa [i64B] using this
  · split
    · rfl
    · exact fit_i64 _
theorem num_i64 {r : Int × Int} (h : i64B r.1 = true) : i64B (numF r).1.n = true := by
  unfold numF
  split
  · rfl
  · exact h
theorem truth_i64 (b : Bool) : i64B (truthV b).n = true := by cases b <;> rfl
theorem both_i64 {wins : Int} {a b : Val} (ha : i64B a.n = true) (hb : i64B b.n = true) : i64B (bothF wins a b).n = true := by
  unfold bothF
  split
  · exact ha
  · split
    · exact hb
    · split
      · rfl
      · exact truth_i64 _
theorem does_i64 {o : Opk} {l : List Val} (h : ∀ x ∈ l, i64B x.n = true) : i64B (doesF o l).1.n = true := by
  have hg : ∀ i : Nat, i64B ((l[i]?).getD .zero).n = true := fun i => by
    cases hi : l[i]? with
    | none => rfl
    | some x => exact h x (List.mem_of_getElem? hi)
  have h0 := hg 0
  have h1 := hg 1
  unfold doesF
  simp only
  generalize (l[0]?).getD .zero = a at *
  generalize (l[1]?).getD .zero = b at *
  cases o <;> simp only
  all_goals first
    | exact truth_i64 _
    | exact both_i64 h0 h1
    | (split; rfl; first | exact truth_i64 _ | exact num_i64 (fit_i64 _) | exact num_i64 (reck_i64 h0 h1))
theorem evalL_mem {cols : List Clm} {row : List Val} : ∀ {l : List Ex} {vs : List Val}, evalL cols row l = .ok vs → ∀ x ∈ vs, ∃ a ∈ l, x = (evalF cols row a).1
  | [], vs, h, x, hx => by simp only [evalL] at h; injection h with h; subst h; cases hx
  | a :: l, vs, h, x, hx => by
    simp only [evalL] at h
    split at h
    · cases h
    · cases he : evalL cols row l with
      | error e => rw [he] at h; cases h
      | ok ws =>
        rw [he] at h
        injection h with h
        subst h
        rcases List.mem_cons.1 hx with rfl | hx
        · exact ⟨a, by simp, rfl⟩
        · obtain ⟨b, hb, e⟩ := evalL_mem he x hx
          exact ⟨b, by simp [hb], e⟩
theorem eval_i64 {cols : List Clm} {row : List Val} (hr : ∀ x ∈ row, i64B x.n = true) : ∀ e : Ex, ExI e → i64B (evalF cols row e).1.n = true := by
  apply Ex.ind
  intro k s v l ih h
  rw [evalF]
  split
  · exact h.val
  · split
    · cases hi : row[(colF cols s).getD 0]? with
      | none => rfl
      | some x => exact hr x (List.mem_of_getElem? hi)
    · split
      · rfl
      · rename_i vs he
        exact does_i64 fun x hx => by
          obtain ⟨a, ha, rfl⟩ := evalL_mem he x hx
          exact ih a ha (h.arg a ha)
/-- What is behind the arguments. -/
def evR (cols : List Clm) (row : List Val) (s : List UInt8) (l : List Ex) (vs : List Val) : Val × Int := match evalL cols row l with | .error e => (.zero, e) | .ok vs' => doesF (opk s) (vs ++ vs')
theorem evR_step {cols : List Clm} {row : List Val} {s : List UInt8} {l : List Ex} {vs : List Val} {j : Nat} (h : j < l.length) : evR cols row s (l.drop j) vs = if (evalF cols row l[j]).2 ≠ 0 then (.zero, (evalF cols row l[j]).2) else evR cols row s (l.drop (j + 1)) (vs ++ [(evalF cols row l[j]).1]) := by
  unfold evR
  rw [drop_cons h, evalL]
  split
  · rename_i e he
    split at he
    · rename_i h1; rw [if_pos h1]; injection he with he; rw [he]
    · rename_i h1
      rw [if_neg h1]
      cases ht : evalL cols row (l.drop (j + 1)) with
      | error e' => rw [ht] at he; injection he with he; rw [he]
      | ok ks' => rw [ht] at he; cases he
  · rename_i ks1 he
    split at he
    · cases he
    · rename_i h1
      rw [if_neg h1]
      cases ht : evalL cols row (l.drop (j + 1)) with
      | error e' => rw [ht] at he; cases he
      | ok ks' =>
        rw [ht] at he
        injection he with he
        rw [← he]
        simp
theorem evR_end {cols : List Clm} {row : List Val} {s : List UInt8} {vs : List Val} : evR cols row s [] vs = doesF (opk s) vs := by simp [evR, evalL]
theorem evalF_eq (cols : List Clm) (row : List Val) (e : Ex) : evalF cols row e = (if e.kind = 1 then ((e.v, 0) : Val × Int) else if e.kind = 2 then ((row[(colF cols e.s).getD 0]?).getD .zero, 0) else evR cols row e.s e.args []) := by
  obtain ⟨k, s, v, l⟩ := e
  rw [evalF]
  unfold evR
  rfl
theorem str_nil : str [] = ⟨#[]⟩ := rfl
theorem TVal : SlT Try.prog 40 23 3 32 (.agg #[.int .i64 0, .int .i64 0, .string ⟨#[]⟩]) := ⟨by kernel_rfl, by kernel_rfl, rfl, by omega⟩
abbrev OwnVa (w : World) (B : Nat) (v : Value) (l : List Val) : Prop := OwnR valCs 3 23 w B v l
theorem valCs_one (p : Val) : ∀ u ∈ valCs p, u.oneCell' = true := by
  intro u hu
  simp only [valCs, List.mem_cons, List.not_mem_nil, or_false] at hu
  rcases hu with rfl | rfl | rfl <;> rfl
theorem OwnVa.inr {w : World} {B : Nat} {v : Value} {l : List Val} (h : OwnVa w B v l) : VaR w (fun k => B ≤ k) v l := (OwnR.wr h).row valCs_len
theorem eval_results {W : World} {k : Nat} {v : Val} {n : Int} (R : Row W k 23 (valCs v)) {tmps : Array Value} (h1 : tmps.getD 6 undef = .pointer (some ⟨k, 0, none⟩)) (h2 : tmps.getD 7 undef = .int .i64 n) :
    (results Try.f29 tmps).run Try.prog W = .ok (.tuple #[valV v, .int .i64 n]) W := by
  have d0 : W.cell? ⟨k, 0, none⟩ = some (.int .i64 v.kind) := R.cell 0
  have d1 : W.cell? ⟨k, 1, none⟩ = some (.int .i64 v.n) := R.cell 1
  have d2 : W.cell? ⟨k, 2, none⟩ = some (.string (str v.s)) := R.cell 2
  simp at h1 h2
  simp [results, Try.results29, h1, h2, go_sem, d0, d1, d2]
set_option maxRecDepth 100000 in
set_option maxHeartbeats 4000000 in
theorem eval_value (u cu rv : Value) (t : TabT) (cols : List Clm) (row : List Val) (e : Ex) (S : Nat → Prop) (w : World) (hv : ExR w S u e) (ht : TabR w S cu t cols) (hrow : VaR w S rv row) (hrl : row.length = cols.length) (h1 : e.kind = 1) :
    Calls Try.prog 29 #[tabV cu t, rv, exV u e] w (ValEP (evalF cols row e) w) := by
  obtain ⟨hcl, a1, n1, c1, a2, n2, c2, a3, n3, c3, q1, q2, q3⟩ := ht
  obtain ⟨Ac, cc, rfl, hcc, hcm⟩ := hcl.form
  obtain ⟨nm, key, place, region, v1, v2, v3, elect, commit, survive⟩ := t
  simp only at q1 q2 q3
  subst q1 q2 q3
  obtain ⟨A, c, rfl, hc, hm⟩ := hv.toL.form
  obtain ⟨Ar, cr, rfl, hrc, hrm⟩ := hrow.form
  unfold maxLen at hm hcm hrm
  have Hrl := Lib.hid hrl
  obtain ⟨TC, hTC⟩ : ∃ TC, TC = tabCs (.slice Ac cols.length cc) ⟨nm, key, place, region, .slice a1 n1 c1, .slice a2 n2 c2, .slice a3 n3 c3, elect, commit, survive⟩ := ⟨_, rfl⟩
  have hS0 := (((Same.refl (fun _ => True) w).alloc (.cells TC.toArray 32)).alloc (.cells (exCs (.slice A e.args.length c) e).toArray 26)).alloc (.cells (valCs .zero).toArray 23)
  have hrt := ((Row.new w 32 TC).keep ((Same.refl (fun _ => True) _).alloc (.cells (exCs (.slice A e.args.length c) e).toArray 26)) trivial).keep ((Same.refl (fun _ => True) _).alloc (.cells (valCs .zero).toArray 23)) trivial
  have hre := (Row.new (w.alloc (.cells TC.toArray 32)) 26 (exCs (.slice A e.args.length c) e)).keep ((Same.refl (fun _ => True) _).alloc (.cells (valCs .zero).toArray 23)) trivial
  have hrr := Row.new ((w.alloc (.cells TC.toArray 32)).alloc (.cells (exCs (.slice A e.args.length c) e).toArray 26)) 23 (valCs .zero)
  rw [World.size_alloc] at hre
  rw [World.size_alloc, World.size_alloc, show w.heap.size + 1 + 1 = w.heap.size + 2 from rfl] at hrr
  have HTC := Lib.hid hTC
  have Hcl := Lib.hid hcl
  have Hv := Lib.hid hv.toL
  have Hrow := Lib.hid hrow
  have HK := Lib.hid (evalF_eq cols row e)
  obtain ⟨F, hF⟩ : ∃ F, evalF cols row e = F := ⟨_, rfl⟩
  rw [hF]
  have HF := Lib.hid hF
  obtain ⟨W0, hW0⟩ : ∃ W0, W0 = ((w.alloc (.cells TC.toArray 32)).alloc (.cells (exCs (.slice A e.args.length c) e).toArray 26)).alloc (.cells (valCs .zero).toArray 23) := ⟨_, rfl⟩
  have HW0 := Lib.hid hW0
  rw [← hW0] at hS0 hrt hre hrr
  rw [hTC] at hrt
  have HS := Lib.hid hS0
  have Hrt := Lib.hid hrt
  have Hre := Lib.hid hre
  have Hrr := Lib.hid hrr
  have z0 := hrr.lt
  clear hTC hcl hv hrow hF hW0 hrl
  have E := HF.out.symm.trans (HK.out.trans (if_pos h1))
  have HE := Lib.hid E
  have b1 : (e.kind == 1) = true := by simpa using h1
  clear E h1
  go_enter Try.func29, Try.ntmps29
  go_wp2
  refine bodyPost_ret (v := .tuple #[valV e.v, .int .i64 0]) ?_ rfl (ValEP.mk' HE.out ?_)
  · simp [results, Try.results29, go_sem]
  · exact (((Same.refl _ _).alloc _).alloc _).alloc _
set_option maxRecDepth 100000 in
set_option maxHeartbeats 4000000 in
theorem eval_name (u cu rv : Value) (t : TabT) (cols : List Clm) (row : List Val) (e : Ex) (S : Nat → Prop) (w : World) (hv : ExR w S u e) (ht : TabR w S cu t cols) (hrow : VaR w S rv row) (hrl : row.length = cols.length) (h1 : e.kind = 2) (hty : (typedF cols e).2 = 0) :
    Calls Try.prog 29 #[tabV cu t, rv, exV u e] w (ValEP (evalF cols row e) w) := by
  obtain ⟨hcl, a1, n1, c1, a2, n2, c2, a3, n3, c3, q1, q2, q3⟩ := ht
  obtain ⟨Ac, cc, rfl, hcc, hcm⟩ := hcl.form
  obtain ⟨nm, key, place, region, v1, v2, v3, elect, commit, survive⟩ := t
  simp only at q1 q2 q3
  subst q1 q2 q3
  obtain ⟨A, c, rfl, hc, hm⟩ := hv.toL.form
  obtain ⟨Ar, cr, rfl, hrc, hrm⟩ := hrow.form
  unfold maxLen at hm hcm hrm
  have Hrl := Lib.hid hrl
  obtain ⟨TC, hTC⟩ : ∃ TC, TC = tabCs (.slice Ac cols.length cc) ⟨nm, key, place, region, .slice a1 n1 c1, .slice a2 n2 c2, .slice a3 n3 c3, elect, commit, survive⟩ := ⟨_, rfl⟩
  have hS0 := (((Same.refl (fun _ => True) w).alloc (.cells TC.toArray 32)).alloc (.cells (exCs (.slice A e.args.length c) e).toArray 26)).alloc (.cells (valCs .zero).toArray 23)
  have hrt := ((Row.new w 32 TC).keep ((Same.refl (fun _ => True) _).alloc (.cells (exCs (.slice A e.args.length c) e).toArray 26)) trivial).keep ((Same.refl (fun _ => True) _).alloc (.cells (valCs .zero).toArray 23)) trivial
  have hre := (Row.new (w.alloc (.cells TC.toArray 32)) 26 (exCs (.slice A e.args.length c) e)).keep ((Same.refl (fun _ => True) _).alloc (.cells (valCs .zero).toArray 23)) trivial
  have hrr := Row.new ((w.alloc (.cells TC.toArray 32)).alloc (.cells (exCs (.slice A e.args.length c) e).toArray 26)) 23 (valCs .zero)
  rw [World.size_alloc] at hre
  rw [World.size_alloc, World.size_alloc, show w.heap.size + 1 + 1 = w.heap.size + 2 from rfl] at hrr
  have HTC := Lib.hid hTC
  have Hcl := Lib.hid hcl
  have Hv := Lib.hid hv.toL
  have Hrow := Lib.hid hrow
  have HK := Lib.hid (evalF_eq cols row e)
  obtain ⟨F, hF⟩ : ∃ F, evalF cols row e = F := ⟨_, rfl⟩
  rw [hF]
  have HF := Lib.hid hF
  obtain ⟨W0, hW0⟩ : ∃ W0, W0 = ((w.alloc (.cells TC.toArray 32)).alloc (.cells (exCs (.slice A e.args.length c) e).toArray 26)).alloc (.cells (valCs .zero).toArray 23) := ⟨_, rfl⟩
  have HW0 := Lib.hid hW0
  rw [← hW0] at hS0 hrt hre hrr
  rw [hTC] at hrt
  have HS := Lib.hid hS0
  have Hrt := Lib.hid hrt
  have Hre := Lib.hid hre
  have Hrr := Lib.hid hrr
  have z0 := hrr.lt
  clear hTC hcl hv hrow hF hW0 hrl
  have E := HF.out.symm.trans (HK.out.trans (by rw [if_neg (by omega), if_pos h1]))
  have HE := Lib.hid E
  have b1 : (e.kind == 1) = false := by rw [h1]; rfl
  have b2 : (e.kind == 2) = true := by rw [h1]; rfl
  obtain ⟨i, hi⟩ : ∃ i, colF cols e.s = some i := by
    rw [typedF_eq, if_neg (by omega), if_pos h1] at hty
    cases ho : colF cols e.s with
    | none => rw [ho] at hty; cases hty
    | some i => exact ⟨i, rfl⟩
  have gc : ∀ W, Same (fun _ => True) w W → Calls Try.prog 33 #[tabV (.slice Ac cols.length cc) ⟨nm, key, place, region, .slice a1 n1 c1, .slice a2 n2 c2, .slice a3 n3 c3, elect, commit, survive⟩, .string (str e.s)] W (fun e w' => e = .returned (.int .i64 (i : Int)) ∧ Same (fun _ => True) W w') := fun W h => by
    have := excol_any (.slice Ac cols.length cc) ⟨nm, key, place, region, .slice a1 n1 c1, .slice a2 n2 c2, .slice a3 n3 c3, elect, commit, survive⟩ cols e.s S W (RowR.keepAll Hcl.out h) ⟨a1, n1, c1, a2, n2, c2, a3, n3, c3, rfl, rfl, rfl⟩
    rw [hi] at this
    exact this
  have hil := colF_lt hi
  have hir : i < row.length := by rw [Hrl.out]; exact hil
  have E : F = (row[i], 0) := HE.out.trans (by rw [hi, Option.getD_some, List.getElem?_eq_getElem hir, Option.getD_some])
  have HE := Lib.hid E
  have y1 : (0 : Int) ≤ (i : Int) := by omega
  have y2 : (i : Int) < (row.length : Int) := by omega
  have gc := gc W0 hS0
  have k0 : W0.cell? ⟨w.heap.size + 1, 0, none⟩ = some (.int .i64 e.kind) := hre.cell 0
  have k1 : W0.cell? ⟨w.heap.size + 1, 1, none⟩ = some (.string (str e.s)) := hre.cell 1
  have k2 : W0.cell? ⟨w.heap.size + 1, 2, none⟩ = some (.int .i64 e.v.kind) := hre.cell 2
  have k3 : W0.cell? ⟨w.heap.size + 1, 3, none⟩ = some (.int .i64 e.v.n) := hre.cell 3
  have k4 : W0.cell? ⟨w.heap.size + 1, 4, none⟩ = some (.string (str e.v.s)) := hre.cell 4
  have k5 : W0.cell? ⟨w.heap.size + 1, 5, none⟩ = some (.slice A e.args.length c) := hre.cell 5
  have t0 : W0.cell? ⟨w.heap.size, 0, none⟩ = some (.string (str nm)) := hrt.cell 0
  have t1 : W0.cell? ⟨w.heap.size, 1, none⟩ = some (.slice Ac cols.length cc) := hrt.cell 1
  have t2 : W0.cell? ⟨w.heap.size, 2, none⟩ = some (.int .i64 key) := hrt.cell 2
  have t3 : W0.cell? ⟨w.heap.size, 3, none⟩ = some (.int .i64 place) := hrt.cell 3
  have t4 : W0.cell? ⟨w.heap.size, 4, none⟩ = some (.int .i64 region) := hrt.cell 4
  have t5 : W0.cell? ⟨w.heap.size, 5, none⟩ = some (.slice a1 n1 c1) := hrt.cell 5
  have t6 : W0.cell? ⟨w.heap.size, 6, none⟩ = some (.slice a2 n2 c2) := hrt.cell 6
  have t7 : W0.cell? ⟨w.heap.size, 7, none⟩ = some (.slice a3 n3 c3) := hrt.cell 7
  have t8 : W0.cell? ⟨w.heap.size, 8, none⟩ = some (.int .i64 elect) := hrt.cell 8
  have t9 : W0.cell? ⟨w.heap.size, 9, none⟩ = some (.int .i64 commit) := hrt.cell 9
  have t10 : W0.cell? ⟨w.heap.size, 10, none⟩ = some (.int .i64 survive) := hrt.cell 10
  clear E h1 hi hty hS0 hrt hre hrr
  go_enter Try.func29, Try.ntmps29
  go_wp2_with (go_at_call 33; refine stopAt ?_)
  unfold Hid
  have e0 := HW0.out
  have e1 := HTC.out
  simp only [tabCs] at e1
  simp only [exCs, e1, valCs, Val.zero, str_nil] at e0
  rw [← e0]
  clear e0 e1
  refine gc.mono ?_
  rintro e' w3 ⟨rfl, hS3⟩
  have hrr3 := Hrr.out.keep hS3 trivial
  have r0 : w3.cell? ⟨w.heap.size + 2, 0, none⟩ = some (.int .i64 0) := hrr3.cell 0
  have r1 : w3.cell? ⟨w.heap.size + 2, 1, none⟩ = some (.int .i64 0) := hrr3.cell 1
  have r2 : w3.cell? ⟨w.heap.size + 2, 2, none⟩ = some (.string (str [])) := hrr3.cell 2
  have f0 : w3.frozen? ⟨w.heap.size + 2, 0, none⟩ = false := hrr3.frozen 0
  have f1 : w3.frozen? ⟨w.heap.size + 2, 1, none⟩ = false := hrr3.frozen 1
  have f2 : w3.frozen? ⟨w.heap.size + 2, 2, none⟩ = false := hrr3.frozen 2
  obtain ⟨ad, rfl, -, d0, d1, d2⟩ := VaR.cells (RowR.keepAll Hrow.out (HS.out.trans hS3)) hir
  generalize row[i] = x at *
  have HS3 := Lib.hid hS3
  have Hrr3 := Lib.hid hrr3
  have z1 := hrr3.lt
  clear hS3 hrr3 gc
  go_wp2
  refine bodyPost_ret (eval_results (n := 0) (Hrr3.out.set3 x) rfl rfl) rfl (ValEP.mk' HE.out ?_)
  exact (HS.out.trans HS3.out).set3 (fun h => by omega) _ _ _
set_option maxRecDepth 100000 in
set_option maxHeartbeats 4000000 in
theorem eval_ops (u cu rv : Value) (t : TabT) (cols : List Clm) (row : List Val) (e : Ex) (S : Nat → Prop) (w : World) (hv : ExR w S u e) (ht : TabR w S cu t cols) (hrow : VaR w S rv row) (hrl : row.length = cols.length) (h1 : e.kind = 3) (hsz : e.size ≤ 100000) (hty : (typedF cols e).2 = 0) (hri : ∀ x ∈ row, i64B x.n = true) (hei : ExI e) (ih : ∀ a ∈ e.args, (typedF cols a).2 = 0 → ∀ (u cu rv : Value) (w : World), ExR w S u a → TabR w S cu t cols → VaR w S rv row → Calls Try.prog 29 #[tabV cu t, rv, exV u a] w (ValEP (evalF cols row a) w)) :
    Calls Try.prog 29 #[tabV cu t, rv, exV u e] w (ValEP (evalF cols row e) w) := by
  have hlen : e.args.length ≤ 100000 := by
    obtain ⟨k, s, v, l⟩ := e
    have h2 := sizeL_len l
    simp only [Ex.size] at hsz
    show l.length ≤ 100000
    omega
  obtain ⟨hok, hopn, hopl⟩ : (∀ a ∈ e.args, (typedF cols a).2 = 0) ∧ opk e.s ≠ .none ∧ e.args.length = argsF (opk e.s) := by
    obtain ⟨k, s, v, l⟩ := e
    have h1' : k = 3 := h1
    subst h1'
    obtain ⟨_, _, ks, hks, hF⟩ := typed_op (by decide) (by decide) hty
    rw [hF] at hty
    obtain ⟨hl, hn⟩ := oper_len hty
    obtain ⟨hkl, hke⟩ := typedL_ok hks
    refine ⟨fun a ha => ?_, hn, by show l.length = argsF (opk s); rw [← hl]; exact hkl.symm⟩
    obtain ⟨i, hi, rfl⟩ := List.mem_iff_getElem.1 ha
    exact (hke i hi (by rw [hkl]; exact hi)).1
  have hvi : ∀ a ∈ e.args, i64B (evalF cols row a).1.n = true := fun a ha => eval_i64 hri a (hei.arg a ha)
  have Ih := Lib.hid ih
  have Hok := Lib.hid hok
  have Hopn := Lib.hid hopn
  have Hopl := Lib.hid hopl
  have Hvi := Lib.hid hvi
  clear ih hok hopn hopl hvi hri hei hty hsz
  obtain ⟨hcl, a1, n1, c1, a2, n2, c2, a3, n3, c3, q1, q2, q3⟩ := ht
  obtain ⟨Ac, cc, rfl, hcc, hcm⟩ := hcl.form
  obtain ⟨nm, key, place, region, v1, v2, v3, elect, commit, survive⟩ := t
  simp only at q1 q2 q3
  subst q1 q2 q3
  obtain ⟨A, c, rfl, hc, hm⟩ := hv.toL.form
  obtain ⟨Ar, cr, rfl, hrc, hrm⟩ := hrow.form
  unfold maxLen at hm hcm hrm
  have Hrl := Lib.hid hrl
  obtain ⟨TC, hTC⟩ : ∃ TC, TC = tabCs (.slice Ac cols.length cc) ⟨nm, key, place, region, .slice a1 n1 c1, .slice a2 n2 c2, .slice a3 n3 c3, elect, commit, survive⟩ := ⟨_, rfl⟩
  have hS0 := (((Same.refl (fun _ => True) w).alloc (.cells TC.toArray 32)).alloc (.cells (exCs (.slice A e.args.length c) e).toArray 26)).alloc (.cells (valCs .zero).toArray 23)
  have hrt := ((Row.new w 32 TC).keep ((Same.refl (fun _ => True) _).alloc (.cells (exCs (.slice A e.args.length c) e).toArray 26)) trivial).keep ((Same.refl (fun _ => True) _).alloc (.cells (valCs .zero).toArray 23)) trivial
  have hre := (Row.new (w.alloc (.cells TC.toArray 32)) 26 (exCs (.slice A e.args.length c) e)).keep ((Same.refl (fun _ => True) _).alloc (.cells (valCs .zero).toArray 23)) trivial
  have hrr := Row.new ((w.alloc (.cells TC.toArray 32)).alloc (.cells (exCs (.slice A e.args.length c) e).toArray 26)) 23 (valCs .zero)
  rw [World.size_alloc] at hre
  rw [World.size_alloc, World.size_alloc, show w.heap.size + 1 + 1 = w.heap.size + 2 from rfl] at hrr
  have HTC := Lib.hid hTC
  have Hcl := Lib.hid hcl
  have Hv := Lib.hid hv.toL
  have Hrow := Lib.hid hrow
  have HK := Lib.hid (evalF_eq cols row e)
  obtain ⟨F, hF⟩ : ∃ F, evalF cols row e = F := ⟨_, rfl⟩
  rw [hF]
  have HF := Lib.hid hF
  obtain ⟨W0, hW0⟩ : ∃ W0, W0 = ((w.alloc (.cells TC.toArray 32)).alloc (.cells (exCs (.slice A e.args.length c) e).toArray 26)).alloc (.cells (valCs .zero).toArray 23) := ⟨_, rfl⟩
  have HW0 := Lib.hid hW0
  rw [← hW0] at hS0 hrt hre hrr
  rw [hTC] at hrt
  have HS := Lib.hid hS0
  have Hrt := Lib.hid hrt
  have Hre := Lib.hid hre
  have Hrr := Lib.hid hrr
  have z0 := hrr.lt
  clear hTC hcl hv hrow hF hW0 hrl
  have E := HF.out.symm.trans (HK.out.trans (by rw [if_neg (by omega), if_neg (by omega)]))
  have HE := Lib.hid E
  have b1 : (e.kind == 1) = false := by rw [h1]; rfl
  have b2 : (e.kind == 2) = false := by rw [h1]; rfl
  clear E h1
  go_enter Try.func29, Try.ntmps29
  go_wp2
  have e0 := HW0.out
  have e1 := HTC.out
  simp only [tabCs] at e1
  simp only [exCs, e1, valCs, Val.zero, str_nil] at e0
  rw [← e0]
  clear e0 e1
  clear hS0 hrt hre hrr
  go_loopw [8, 10, 11, 12, 31] (fun v _ _ _ i wr => ∃ (j : Nat) (vs : List Val), j ≤ e.args.length ∧ i = .int .i64 j ∧ vs.length = j ∧ OwnVa wr W0.heap.size v vs ∧ (∀ x ∈ vs, i64B x.n = true) ∧ F = evR cols row e.s (e.args.drop j) vs ∧ Same (fun _ => True) W0 wr) (fun _ _ _ _ i _ => e.args.length - (intOf i).toNat)
  case atStart => exact ⟨0, [], Nat.zero_le _, rfl, rfl, OwnR.nil _ _, (fun x hx => by cases hx), HE.out, Same.refl _ _⟩
  case round =>
    obtain ⟨j, vs, hj, rfl, hkl, hown, hvs, hrel, hS⟩ := hrel
    have Hrel := Lib.hid hrel
    have Hown := Lib.hid hown
    have Hvs := Lib.hid hvs
    have HSr := Lib.hid hS
    have Hkl := Lib.hid hkl
    have hrt := Hrt.out.keep hS trivial
    have hre := Hre.out.keep hS trivial
    have hrr := Hrr.out.keep hS trivial
    obtain ⟨Ak, ck, rfl, hk1, hk2⟩ := hown.form
    have hkj : vs.length ≤ 100000 := by omega
    unfold maxLen at hk2
    clear hrel hown hkl hvs
    by_cases hlt : j < e.args.length
    · obtain ⟨ad, uj, rfl, -, hvj, d0, d1, d2, d3, d4, d5⟩ := ExL.cells (Hv.out.keepAll (HS.out.trans hS)) hlt
      have hd := evR_step (cols := cols) (row := row) (s := e.s) (vs := vs) hlt
      have ihj := fun (W : World) (h1 : ExR W S uj (e.args[j]'hlt)) h2 h3 => Ih.out (e.args[j]'hlt) (List.getElem_mem hlt) (Hok.out _ (List.getElem_mem hlt)) uj (.slice Ac cols.length cc) (.slice Ar row.length cr) W h1 h2 h3
      have hxi := Hvi.out _ (List.getElem_mem hlt)
      have x3 : (0 : Int) ≤ (j : Int) := by omega
      have x4 : (j : Int) < (e.args.length : Int) := by omega
      have htj : TabR wr S (.slice Ac cols.length cc) ⟨nm, key, place, region, .slice a1 n1 c1, .slice a2 n2 c2, .slice a3 n3 c3, elect, commit, survive⟩ cols := ⟨RowR.keepAll Hcl.out (HS.out.trans hS), a1, n1, c1, a2, n2, c2, a3, n3, c3, rfl, rfl, rfl⟩
      have hrj : VaR wr S (.slice Ar row.length cr) row := RowR.keepAll Hrow.out (HS.out.trans hS)
      generalize e.args[j] = x at *
      have hvj : ExR wr S uj x := (ExR.iff uj x).2 hvj
      obtain ⟨Au, cu, rfl, -, -⟩ := hvj.toL.form
      have hSx := (Same.refl (fun _ => True) wr).alloc (.cells (exCs (.slice Au x.args.length cu) x).toArray 26)
      have Hvj := Lib.hid (hvj.keepAll hSx)
      have Htj := Lib.hid (htj.keepAll hSx)
      have Hrj := Lib.hid (RowR.keepAll hrj hSx)
      have HSx := Lib.hid hSx
      have hab := World.block_lt_of_cell? wr _ d0
      have t0 : wr.cell? ⟨w.heap.size, 0, none⟩ = some (.string (str nm)) := hrt.cell 0
      have t1 : wr.cell? ⟨w.heap.size, 1, none⟩ = some (.slice Ac cols.length cc) := hrt.cell 1
      have t2 : wr.cell? ⟨w.heap.size, 2, none⟩ = some (.int .i64 key) := hrt.cell 2
      have t3 : wr.cell? ⟨w.heap.size, 3, none⟩ = some (.int .i64 place) := hrt.cell 3
      have t4 : wr.cell? ⟨w.heap.size, 4, none⟩ = some (.int .i64 region) := hrt.cell 4
      have t5 : wr.cell? ⟨w.heap.size, 5, none⟩ = some (.slice a1 n1 c1) := hrt.cell 5
      have t6 : wr.cell? ⟨w.heap.size, 6, none⟩ = some (.slice a2 n2 c2) := hrt.cell 6
      have t7 : wr.cell? ⟨w.heap.size, 7, none⟩ = some (.slice a3 n3 c3) := hrt.cell 7
      have t8 : wr.cell? ⟨w.heap.size, 8, none⟩ = some (.int .i64 elect) := hrt.cell 8
      have t9 : wr.cell? ⟨w.heap.size, 9, none⟩ = some (.int .i64 commit) := hrt.cell 9
      have t10 : wr.cell? ⟨w.heap.size, 10, none⟩ = some (.int .i64 survive) := hrt.cell 10
      have z1 := hrt.lt
      obtain ⟨R, hR⟩ : ∃ R, evalF cols row x = R := ⟨_, rfl⟩
      rw [hR] at ihj hd hxi
      have Hd := Lib.hid hd
      have Hxi := Lib.hid hxi
      clear hd hvj hSx hR hS hrt hre hrr htj hrj hxi
      go_wp2_with (go_at_call 29; refine stopAt ?_)
      unfold Hid
      refine (ihj _ Hvj.out Htj.out Hrj.out).mono ?_
      rintro e' w3 ⟨rfl, hS3⟩
      have HS3 := Lib.hid (HSx.out.trans hS3)
      clear hS3 ihj t0 t1 t2 t3 t4 t5 t6 t7 t8 t9 t10 d0 d1 d2 d3 d4 d5 hab
      obtain ⟨rk, re⟩ := R
      have hSb := (Same.refl (fun _ => True) w3).alloc (.cells (valCs rk).toArray 23)
      have HSb := Lib.hid (HS3.out.trans hSb)
      have hrb := Row.new w3 23 (valCs rk)
      clear hSb
      by_cases h0 : re = 0
      · have b4 : (re != 0) = false := by simpa using h0
        have K := Hrel.out.trans (Hd.out.trans (if_neg (by simpa using h0)))
        have HKK := Lib.hid K
        clear K h0 hrb
        go_wp2_with (at_builtin; refine stopAt ?_)
        unfold Hid
        have hown3 := Hown.out.keepAll HSb.out
        refine wpList_appR1 TVal valCs_len valCs_one rfl (.tmp 46) (.tmp 48) rfl (f := valCs) (B := W0.heap.size) (v := .slice Ak vs.length ck) (l := vs) (c := rk) rfl rfl (by rw [World.size_alloc]) hown3 (Nat.le_trans HSr.out.size HSb.out.size) (by simp only [maxLen]; omega) (by omega) ?_
        intro v' w4 hown4 hS4
        have Hown4 := Lib.hid hown4
        have HS4 := Lib.hid hS4
        clear hown4 hS4 hown3
        go_wp2
        go_roundw
        case rel =>
          refine ⟨j + 1, vs ++ [rk], by omega, by go_num, by simp [Hkl.out], Hown4.out, fun y hy => ?_, HKK.out, ?_⟩
          · rcases List.mem_append.1 hy with hy | hy
            · exact Hvs.out y hy
            · simp only [List.mem_cons, List.not_mem_nil, or_false] at hy
              rw [hy]; exact Hxi.out
          · exact (HSr.out.trans HSb.out).trans' HS4.out fun i hi _ => hi
        case measure => simp [intOf]; omega
      · have b4 : (re != 0) = true := by simpa using h0
        have K := Hrel.out.trans (Hd.out.trans (if_pos (by simpa using h0)))
        have HKK := Lib.hid K
        have hrr3 := Hrr.out.keep (HSr.out.trans HS3.out) trivial
        have r0 : w3.cell? ⟨w.heap.size + 2, 0, none⟩ = some (.int .i64 0) := hrr3.cell 0
        have r1 : w3.cell? ⟨w.heap.size + 2, 1, none⟩ = some (.int .i64 0) := hrr3.cell 1
        have r2 : w3.cell? ⟨w.heap.size + 2, 2, none⟩ = some (.string (str [])) := hrr3.cell 2
        have f0 : w3.frozen? ⟨w.heap.size + 2, 0, none⟩ = false := hrr3.frozen 0
        have f1 : w3.frozen? ⟨w.heap.size + 2, 1, none⟩ = false := hrr3.frozen 1
        have f2 : w3.frozen? ⟨w.heap.size + 2, 2, none⟩ = false := hrr3.frozen 2
        have z2 := hrr3.lt
        have z3 := HSr.out.size
        have z4 := HS3.out.size
        have Hrr3 := Lib.hid hrr3
        clear K h0 hrr3 hrb
        go_wp2
        refine bodyPost_ret (eval_results (n := re) ((Hrr3.out.set3 .zero).keep ((Same.refl (fun _ => True) _).alloc _) trivial) rfl rfl) rfl (ValEP.mk' HKK.out ?_)
        exact ((HS.out.trans (HSr.out.trans HS3.out)).set3 (fun h => by omega) _ _ _).alloc _
    · have K := Hrel.out.trans (by rw [List.drop_of_length_le (by omega), evR_end])
      have HKK : Hid (F = doesF (opk e.s) vs) := Lib.hid K
      have k0 : wr.cell? ⟨w.heap.size + 1, 0, none⟩ = some (.int .i64 e.kind) := hre.cell 0
      have k1 : wr.cell? ⟨w.heap.size + 1, 1, none⟩ = some (.string (str e.s)) := hre.cell 1
      have k2 : wr.cell? ⟨w.heap.size + 1, 2, none⟩ = some (.int .i64 e.v.kind) := hre.cell 2
      have k3 : wr.cell? ⟨w.heap.size + 1, 3, none⟩ = some (.int .i64 e.v.n) := hre.cell 3
      have k4 : wr.cell? ⟨w.heap.size + 1, 4, none⟩ = some (.string (str e.v.s)) := hre.cell 4
      have k5 : wr.cell? ⟨w.heap.size + 1, 5, none⟩ = some (.slice A e.args.length c) := hre.cell 5
      have z1 := hre.lt
      have hl2 : vs.length = argsF (opk e.s) := by rw [← Hopl.out, Hkl.out]; omega
      have hdo := fun W h => exdoes_any (.slice Ak vs.length ck) e.s vs (fun k => W0.heap.size ≤ k) W h Hopn.out hl2 Hvs.out
      clear K hre hrt hrr hS hl2
      obtain ⟨D, hD⟩ : ∃ D, doesF (opk e.s) vs = D := ⟨_, rfl⟩
      rw [hD] at hdo
      have HKK : Hid (F = D) := Lib.hid (HKK.out.trans hD)
      clear hD
      go_wp2_with (go_at_call 38; refine stopAt ?_)
      unfold Hid
      refine (hdo _ Hown.out.inr).mono ?_
      rintro e' w3 ⟨rfl, hS3⟩
      have HS3 := Lib.hid hS3
      have hrr3 := Hrr.out.keep (HSr.out.trans hS3) trivial
      have r0 : w3.cell? ⟨w.heap.size + 2, 0, none⟩ = some (.int .i64 0) := hrr3.cell 0
      have r1 : w3.cell? ⟨w.heap.size + 2, 1, none⟩ = some (.int .i64 0) := hrr3.cell 1
      have r2 : w3.cell? ⟨w.heap.size + 2, 2, none⟩ = some (.string (str [])) := hrr3.cell 2
      have f0 : w3.frozen? ⟨w.heap.size + 2, 0, none⟩ = false := hrr3.frozen 0
      have f1 : w3.frozen? ⟨w.heap.size + 2, 1, none⟩ = false := hrr3.frozen 1
      have f2 : w3.frozen? ⟨w.heap.size + 2, 2, none⟩ = false := hrr3.frozen 2
      have Hrr3 := Lib.hid hrr3
      have z2 := hrr3.lt
      obtain ⟨dv, dn⟩ := D
      clear hS3 hdo hrr3
      go_wp2
      refine bodyPost_ret (eval_results (n := dn) (Hrr3.out.set3 dv) rfl rfl) rfl (ValEP.mk' HKK.out ?_)
      exact (HS.out.trans (HSr.out.trans HS3.out)).set3 (fun h => by omega) _ _ _
/-- The program's eval. -/
theorem exeval_any (t : TabT) (cols : List Clm) (row : List Val) (S : Nat → Prop) (hri : ∀ x ∈ row, i64B x.n = true) (hrl : row.length = cols.length) : ∀ (e : Ex), e.size ≤ 100000 → ExI e → (typedF cols e).2 = 0 → ∀ (u cu rv : Value) (w : World), ExR w S u e → TabR w S cu t cols → VaR w S rv row →
    Calls Try.prog 29 #[tabV cu t, rv, exV u e] w (ValEP (evalF cols row e) w) := by
  apply Ex.ind2 (P := fun e => e.size ≤ 100000 → ExI e → (typedF cols e).2 = 0 → ∀ (u cu rv : Value) (w : World), ExR w S u e → TabR w S cu t cols → VaR w S rv row → Calls Try.prog 29 #[tabV cu t, rv, exV u e] w (ValEP (evalF cols row e) w))
  intro e ih hsz hei hty u cu rv w hv ht hrow
  by_cases h1 : e.kind = 1
  · exact eval_value u cu rv t cols row e S w hv ht hrow hrl h1
  by_cases h2 : e.kind = 2
  · exact eval_name u cu rv t cols row e S w hv ht hrow hrl h2 hty
  by_cases h3 : e.kind = 3
  · exact eval_ops u cu rv t cols row e S w hv ht hrow hrl h3 hsz hty hri hei fun a ha h0 u cu rv w hv ht hrow => ih a ha (by
      have := size_mem ha
      obtain ⟨k, s, v, l⟩ := e
      simp only [Ex.size] at hsz
      exact Nat.le_trans this (by show sizeL l ≤ _; omega)) (hei.arg a ha) h0 u cu rv w hv ht hrow
  · rw [typedF_eq, if_neg h1, if_neg h2, if_neg h3] at hty
    cases hty
end Go.Proofs.Ytakbikibahhepaa
