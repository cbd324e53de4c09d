/-
  Predicates for the laws' drawn regions; the walk of begun.
-/
import Derived.Test.YtakbikibahhepaaExW15
import Derived.Deep.CutRange
set_option linter.unusedSimpArgs false
set_option linter.unusedVariables false
namespace Go.Proofs.Ytakbikibahhepaa
open Go.RowKit

/-- A value that is a tree. -/
def TreeVal (w : World) (v : Value) (e : Ex) : Prop := ∃ u, v = exV u e ∧ ExR w (fun _ => True) u e
theorem TreeVal.keepAll {w w' : World} {v : Value} {e : Ex} (h : TreeVal w v e) (hs : Same (fun _ => True) w w') : TreeVal w' v e := by
  obtain ⟨u, h1, h2⟩ := h
  exact ⟨u, h1, h2.keepAll hs⟩
def SP.tree (e : Ex) : SP := ⟨fun v w => TreeVal w v e, fun _ _ _ h k => h.keepAll k⟩
def SP.exl (l : List Ex) : SP := ⟨fun v w => ExL w (fun _ => True) v l, fun _ _ _ h k => h.keepAll k⟩
def SP.va (l : List Val) : SP := ⟨fun v w => VaR w (fun _ => True) v l, fun _ _ _ h k => RowR.keepAll h k⟩
def OpP (e : Ex) (w : World) (en : Ending) (w' : World) : Prop := ∃ v, en = .returned v ∧ TreeVal w' v e ∧ Same (fun _ => True) w w'
theorem op_v (v : Value) (s : List UInt8) (l : List Ex) (w : World) (h : ExL w (fun _ => True) v l) : Calls Try.prog 21 #[.string (str s), v] w (OpP (.mk 3 s .zero l) w) := by
  obtain ⟨A, c, rfl, hc, hm⟩ := h.form
  refine (op_any s A l.length c l w).mono ?_
  rintro e w' ⟨rfl, hs⟩
  exact ⟨_, rfl, ⟨_, rfl, (h.toR 3 s .zero).keepAll hs⟩, hs⟩
theorem ExL.fresh1 {u : Value} {e : Ex} (w : World) (h : ExR w (fun _ => True) u e) : ExL (w.alloc (.cells (exCs u e).toArray 26)) (fun _ => True) (.slice (some ⟨w.heap.size, 0, none⟩) 1 1) [e] := by
  have := ExL.fresh (w := w) [u] [e] rfl (fun i u' e' h1 h2 => by
    match i with
    | 0 => simp at h1 h2; subst h1 h2; exact h
    | i + 1 => simp at h1) (by simp [maxLen])
  simpa using this
theorem ExL.fresh2 {u v : Value} {e f : Ex} (w : World) (h : ExR w (fun _ => True) u e) (k : ExR w (fun _ => True) v f) : ExL (w.alloc (.cells (exCs u e ++ exCs v f).toArray 26)) (fun _ => True) (.slice (some ⟨w.heap.size, 0, none⟩) 2 2) [e, f] := by
  have := ExL.fresh (w := w) [u, v] [e, f] rfl (fun i u' e' h1 h2 => by
    match i with
    | 0 => simp at h1 h2; subst h1 h2; exact h
    | 1 => simp at h1 h2; subst h1 h2; exact k
    | i + 2 => simp at h1) (by simp [maxLen])
  simpa using this
theorem VaR.fresh3 (w : World) : VaR (w.alloc (.cells ([Val.zero, .zero, .zero].flatMap valCs).toArray 23)) (fun _ => True) (.slice (some ⟨w.heap.size, 0, none⟩) 3 3) [.zero, .zero, .zero] := by
  refine ⟨_, 3, rfl, by simp, by simp [maxLen], ?_⟩
  have h := (Row.new w 23 ([Val.zero, .zero, .zero].flatMap valCs)).sl (size := 3) (off := 0) (n := 3) (by simp [valCs])
  rw [List.drop_zero, List.take_of_length_le (by simp [valCs])] at h
  exact h.mono (fun _ _ _ => trivial)
theorem make3 (w : World) : (Instr.makeSlice 40 (.int .i64 3) (.int .i64 3)).run Try.prog w = .ok (.slice (some ⟨w.heap.size, 0, none⟩) 3 3) (w.alloc (.cells ([Val.zero, .zero, .zero].flatMap valCs).toArray 23)) := by
  obtain ⟨i, h2, h3, h4, h5⟩ := info_parts TVal.info
  have hr := run_make (P := Try.prog) w 40 23 i _ TVal.und h2 h3 .i64 .i64 3 3 (by omega) (by omega) (by rw [h5]; omega) (by omega)
  rw [h4] at hr
  have e : madeCells (Value.agg #[.int .i64 0, .int .i64 0, .string ⟨#[]⟩]).cells (Int.toNat 3 * 3) = ([Val.zero, .zero, .zero].flatMap valCs).toArray := by kernel_rfl
  rw [e] at hr
  exact hr
/-- A row of noughts, made for a law. -/
def zeros : List Val := [.zero, .zero, .zero]
theorem zeros_i64 : ∀ x ∈ zeros, i64B x.n = true := by
  intro x hx
  simp only [zeros, List.mem_cons, List.not_mem_nil, or_false] at hx
  rcases hx with rfl | rfl | rfl <;> rfl
theorem evalw_any (v rv t : Value) (row : List Val) (e : Ex) (W : World) (ht : TabVal W v) (hrow : VaR W (fun _ => True) rv row) (hv : TreeVal W t e) (hsz : e.size ≤ 100000) (hei : ExI e) (hri : ∀ x ∈ row, i64B x.n = true) :
    Calls Try.prog 15 #[v, rv, t] W (ValEP (evalTF cols3 row e) W) := by
  obtain ⟨u, rfl, h⟩ := hv
  exact exEval_v v u rv row e W ht h hrow hsz hei hri
theorem valuew_any (t rv : Value) (row : List Val) (e : Ex) (W : World) (hv : TreeVal W t e) (hrow : VaR W (fun _ => True) rv row) (hsz : e.size ≤ 100000) (hei : ExI e) (hri : ∀ x ∈ row, i64B x.n = true) :
    Calls Try.prog 20 #[t, rv] W (ValBP (evalTF cols3 row e) W) := by
  obtain ⟨u, rfl, h⟩ := hv
  exact value_any u rv row e W h hrow hsz hei hri
theorem ExI.leaf (k : Int) (s : List UInt8) {v : Val} (h : i64B v.n = true) : ExI (.mk k s v []) := .mk h (fun a ha => by cases ha)
theorem ExI.one (s : List UInt8) {e : Ex} (h : ExI e) : ExI (.mk 3 s .zero [e]) := .mk rfl (fun a ha => by simp at ha; subst ha; exact h)
theorem ExI.two (s : List UInt8) {e f : Ex} (h : ExI e) (k : ExI f) : ExI (.mk 3 s .zero [e, f]) := .mk rfl (fun a ha => by simp at ha; rcases ha with rfl | rfl; exact h; exact k)
/-- The tree that begun asks. -/
def begE : Ex := .mk 3 [79, 82] .zero [.mk 1 [] .zero [], .mk 1 [] ⟨1, 1, []⟩ []]
theorem begE_val : evalTF cols3 zeros begE = (⟨1, 1, []⟩, 0) := by kernel_rfl
theorem begS_kind : typeF cols3 (.mk 2 [83] .zero []) = (3, 0) := by kernel_rfl
set_option maxRecDepth 100000 in
set_option maxHeartbeats 8000000 in
theorem begun_any (w : World) : Calls Try.prog 10 #[] w (BoolP true w) := by
  go_enter Try.func10, Try.ntmps10
  go_wp2_with (go_at_call 22; refine stopAt ?_)
  unfold Hid
  refine (lit_any .zero _).mono ?_
  rintro e' w1 ⟨rfl, hS1⟩
  have HS1 := Lib.hid hS1
  clear hS1
  go_wp2_with (go_at_call 22; refine stopAt ?_)
  unfold Hid
  refine (lit_any ⟨1, 1, []⟩ _).mono ?_
  rintro e' w2 ⟨rfl, hS2⟩
  have HS2 := Lib.hid hS2
  clear hS2
  go_wp2_with (go_at_call 21; refine stopAt ?_)
  unfold Hid
  have hl := ExL.fresh2 w2 (ExR.leaf w2 _ 1 [] .zero) (ExR.leaf w2 _ 1 [] ⟨1, 1, []⟩)
  obtain ⟨E, hE⟩ : ∃ E, begE = E := ⟨_, rfl⟩
  have gop : ∀ W v, ExL W (fun _ => True) v [.mk 1 [] .zero [], .mk 1 [] ⟨1, 1, []⟩ []] → Calls Try.prog 21 #[.string (str [79, 82]), v] W (OpP E W) := fun W v h => by rw [← hE]; exact op_v v [79, 82] _ W h
  obtain ⟨F, hF⟩ : ∃ F, F = ((⟨1, 1, []⟩, 0) : Val × Int) := ⟨_, rfl⟩
  have Hev : Hid (∀ W v rv t, TabVal W v → VaR W (fun _ => True) rv zeros → TreeVal W t E → Calls Try.prog 15 #[v, rv, t] W (ValEP F W)) := Lib.hid fun W v rv t h1 h2 h3 => by
    have := evalw_any v rv t zeros E W h1 h2 h3 (by rw [← hE]; decide) (by rw [← hE]; exact .two _ (.leaf _ _ rfl) (.leaf _ _ rfl)) zeros_i64
    rw [← hE, begE_val, ← hF] at this
    exact this
  have HF := Lib.hid hF
  clear hE hF
  refine (gop _ _ hl).mono ?_
  rintro e' w3 ⟨vt, rfl, ⟨ut, rfl, hvt⟩, hS3⟩
  have HS3 := Lib.hid (((HS1.out.trans HS2.out).alloc _).trans hS3)
  obtain ⟨At, ct, rfl, -, -⟩ := hvt.toL.form
  have Hvt := Lib.hid hvt
  clear hS3 hl hvt gop
  go_wp2_with (with_reducible refine stopDst 13 rfl ?_)
  have hrow := Row.new w3 26 (exCs (.slice At E.args.length ct) E)
  have hvt := Hvt.out.keepAll ((Same.refl (fun _ => True) w3).alloc (.cells (exCs (.slice At E.args.length ct) E).toArray 26))
  have hS4 := HS3.out.alloc (.cells (exCs (.slice At E.args.length ct) E).toArray 26)
  obtain ⟨W0, hW0⟩ : ∃ W0, W0 = w3.alloc (.cells (exCs (.slice At E.args.length ct) E).toArray 26) := ⟨_, rfl⟩
  rw [← hW0] at hrow hvt hS4
  have e0 := hW0
  simp only [exCs] at e0
  rw [← e0]
  have z3 : w3.heap.size < W0.heap.size := by rw [hW0]; simp
  have k0 : W0.cell? ⟨w3.heap.size, 0, none⟩ = some (.int .i64 E.kind) := hrow.cell 0
  have k1 : W0.cell? ⟨w3.heap.size, 1, none⟩ = some (.string (str E.s)) := hrow.cell 1
  have k2 : W0.cell? ⟨w3.heap.size, 2, none⟩ = some (.int .i64 E.v.kind) := hrow.cell 2
  have k3 : W0.cell? ⟨w3.heap.size, 3, none⟩ = some (.int .i64 E.v.n) := hrow.cell 3
  have k4 : W0.cell? ⟨w3.heap.size, 4, none⟩ = some (.string (str E.v.s)) := hrow.cell 4
  have k5 : W0.cell? ⟨w3.heap.size, 5, none⟩ = some (.slice At E.args.length ct) := hrow.cell 5
  have HS4 := Lib.hid hS4
  have Hvt := Lib.hid hvt
  have hmk := make3
  have hDist : Hid (w3.heap.size < W0.heap.size) := Lib.hid z3
  clear hW0 e0 hrow hvt hS4
  go_upto_region 2 with (fail)
  go_cut [2, 3] from 12 to 18 (fun vA vB wx => ∃ (W5 : World) (g : Nat), W5 = wx ∧ vA = .pointer (some ⟨g, 0, none⟩) ∧ vB = .int .i64 F.2 ∧ W0.heap.size ≤ g ∧ Row W5 g 23 (valCs F.1) ∧ Same (fun _ => True) W0 W5)
  case first =>
    refine wp_region_tail_d (L := [.of .tab, .of (.va [.zero, .zero, .zero]), .eq (exV (.slice At E.args.length ct) E), .eq (.tuple #[valV F.1, .int .i64 F.2]), .eq (.tuple #[valV F.1, .int .i64 F.2]), .eq (valV F.1), .eq (.int .i64 F.2), .of (.fresh W0.heap.size 23 (valCs .zero))]) 8 6 (by omega) (by kernel_rfl) (by kernel_rfl) rfl rfl rfl rfl rfl rfl ?_ ?_ ?_
    · refine ⟨?_, ?_, ?_, ?_, ?_, ?_, ?_, ?_, trivial⟩
      · intro ac wc hs hd hz hf hw K hK
        clear hd hz hf hw
        simp only [Region.wanted, if_true, Oper.wp, execOp, resolve, List.map_toArray, List.map_cons, List.map_nil, Option.map_some, Option.map_none]
        go_simp
        refine (table_any _).mono ?_
        rintro e wd ⟨vt, rfl, ht9, hs9⟩
        exact hK _ _ ht9 hs9
      · intro ac wc hs hd hz hf hw K hK
        clear hd hz hf hw
        simp only [Region.wanted, if_true, Oper.wp, execOp, resolve, List.map_toArray, List.map_cons, List.map_nil, Option.map_some, Option.map_none]
        go_simp
        exact hK _ _ (VaR.fresh3 wc) ((Same.refl _ _).alloc _)
      · intro ac wc hs hd hz hf hw K hK
        have e0 : ac.eval (.tmp 1) = (.pointer (some ⟨w3.heap.size, 0, none⟩)) := hf 1 rfl
        have m0 : wc.cell? ⟨w3.heap.size, 0, none⟩ = some (.int .i64 E.kind) := hs.cell (p := ⟨w3.heap.size, 0, none⟩) trivial k0
        have m1 : wc.cell? ⟨w3.heap.size, 1, none⟩ = some (.string (str E.s)) := hs.cell (p := ⟨w3.heap.size, 1, none⟩) trivial k1
        have m2 : wc.cell? ⟨w3.heap.size, 2, none⟩ = some (.int .i64 E.v.kind) := hs.cell (p := ⟨w3.heap.size, 2, none⟩) trivial k2
        have m3 : wc.cell? ⟨w3.heap.size, 3, none⟩ = some (.int .i64 E.v.n) := hs.cell (p := ⟨w3.heap.size, 3, none⟩) trivial k3
        have m4 : wc.cell? ⟨w3.heap.size, 4, none⟩ = some (.string (str E.v.s)) := hs.cell (p := ⟨w3.heap.size, 4, none⟩) trivial k4
        have m5 : wc.cell? ⟨w3.heap.size, 5, none⟩ = some (.slice At E.args.length ct) := hs.cell (p := ⟨w3.heap.size, 5, none⟩) trivial k5
        clear hd hz hf hw
        simp only [Region.wanted, if_true, Oper.wp, execOp, resolve, List.map_toArray, List.map_cons, List.map_nil, Option.map_some, Option.map_none, e0]
        go_simp
        exact hK _ _ rfl (Same.refl _ _)
      · intro ac wc hs hd hz hf hw K hK
        have p0 : (.tab : SP).p (ac.eval (.tmp 13)) wc := hw 0 rfl
        obtain ⟨u0, e0⟩ : ∃ u, ac.eval (.tmp 13) = u := ⟨_, rfl⟩
        rw [e0] at p0
        have p1 : ((.va [.zero, .zero, .zero]) : SP).p (ac.eval (.tmp 14)) wc := hw 1 rfl
        obtain ⟨u1, e1⟩ : ∃ u, ac.eval (.tmp 14) = u := ⟨_, rfl⟩
        rw [e1] at p1
        have e2 : ac.eval (.tmp 15) = (exV (.slice At E.args.length ct) E) := hw 2 rfl
        clear hd hz hf hw
        simp only [Region.wanted, if_true, Oper.wp, execOp, resolve, List.map_toArray, List.map_cons, List.map_nil, Option.map_some, Option.map_none, e0, e1, e2]
        go_simp
        refine (Hev.out _ _ _ _ p0 p1 ⟨_, rfl, (Hvt.out.keepAll hs)⟩).mono ?_
        rintro e wd ⟨rfl, hs2⟩
        exact hK _ _ rfl hs2
      · intro ac wc hs hd hz hf hw K hK
        have e0 : ac.eval (.tmp 16) = (.tuple #[valV F.1, .int .i64 F.2]) := hw 3 rfl
        clear hd hz hf hw
        simp only [Region.wanted, if_true, Oper.wp, execOp, resolve, List.map_toArray, List.map_cons, List.map_nil, Option.map_some, Option.map_none, e0]
        go_simp
        exact hK _ _ rfl (Same.refl _ _)
      · intro ac wc hs hd hz hf hw K hK
        have e0 : ac.eval (.tmp 12) = (.tuple #[valV F.1, .int .i64 F.2]) := hw 4 rfl
        clear hd hz hf hw
        simp only [Region.wanted, if_true, Oper.wp, execOp, resolve, List.map_toArray, List.map_cons, List.map_nil, Option.map_some, Option.map_none, e0]
        go_simp
        exact hK _ _ rfl (Same.refl _ _)
      · intro ac wc hs hd hz hf hw K hK
        have e0 : ac.eval (.tmp 12) = (.tuple #[valV F.1, .int .i64 F.2]) := hw 4 rfl
        clear hd hz hf hw
        simp only [Region.wanted, if_true, Oper.wp, execOp, resolve, List.map_toArray, List.map_cons, List.map_nil, Option.map_some, Option.map_none, e0]
        go_simp
        exact hK _ _ rfl (Same.refl _ _)
      · intro ac wc hs hd hz hf hw K hK
        clear hd hz hf hw
        simp only [Region.wanted, if_true, Oper.wp, execOp, resolve, List.map_toArray, List.map_cons, List.map_nil, Option.map_some, Option.map_none]
        go_simp
        exact hK _ _ ⟨_, rfl, hs.size, Row.new wc _ (valCs .zero)⟩ ((Same.refl _ _).alloc _)
    · intro vs wR hvl hvp hsR
      rcases vs with _ | ⟨z0, _ | ⟨z1, _ | ⟨z2, _ | ⟨z3, _ | ⟨z4, _ | ⟨z5, _ | ⟨z6, _ | ⟨z7, _ | ⟨zz, zr⟩⟩⟩⟩⟩⟩⟩⟩⟩
      rotate_right 1
      · simp at hvl
      · simp at hvl
      · simp at hvl
      · simp at hvl
      · simp at hvl
      · simp at hvl
      · simp at hvl
      · simp at hvl
      · simp at hvl
      · have htb : (.tab : SP).p z0 wR := hvp 0 (by omega)
        have hmk : ((.va [.zero, .zero, .zero]) : SP).p z1 wR := hvp 1 (by omega)
        obtain rfl : z2 = (exV (.slice At E.args.length ct) E) := hvp 2 (by omega)
        obtain rfl : z3 = (.tuple #[valV F.1, .int .i64 F.2]) := hvp 3 (by omega)
        obtain rfl : z4 = (.tuple #[valV F.1, .int .i64 F.2]) := hvp 4 (by omega)
        obtain rfl : z5 = (valV F.1) := hvp 5 (by omega)
        obtain rfl : z6 = (.int .i64 F.2) := hvp 6 (by omega)
        have hfr : ((.fresh W0.heap.size 23 (valCs .zero)) : SP).p z7 wR := hvp 7 (by omega)
        clear hvl hvp
        simp only [putAll, Act.put, List.setIfInBounds_toArray, List.set_cons_succ, List.set_cons_zero, List.take_succ_cons, List.take_zero, List.drop_succ_cons, List.drop_zero, List.eraseIdx_cons_succ, List.eraseIdx_cons_zero]
        obtain ⟨g, rfl, hg, hrg⟩ := hfr
        have y0 : wR.cell? ⟨g, 0, none⟩ = some (.int .i64 0) := hrg.cell 0
        have y1 : wR.cell? ⟨g, 1, none⟩ = some (.int .i64 0) := hrg.cell 1
        have y2 : wR.cell? ⟨g, 2, none⟩ = some (.string (str [])) := hrg.cell 2
        have x0 : wR.frozen? ⟨g, 0, none⟩ = false := hrg.frozen 0
        have x1 : wR.frozen? ⟨g, 1, none⟩ = false := hrg.frozen 1
        have x2 : wR.frozen? ⟨g, 2, none⟩ = false := hrg.frozen 2
        have Hrg := Lib.hid hrg
        have HsR := Lib.hid hsR
        have zG := hrg.lt
        clear hsR hrg 
        go_wp2
        go_meet
        exact ⟨_, g, rfl, rfl, rfl, hg, Hrg.out.set3 _, HsR.out.set3 (fun h => by omega) _ _ _⟩
    · intro vs wR hvl hvp hsR
      rcases vs with _ | ⟨z0, _ | ⟨z1, _ | ⟨z2, _ | ⟨z3, _ | ⟨z4, _ | ⟨z5, _ | ⟨z7, _ | ⟨zz, zr⟩⟩⟩⟩⟩⟩⟩⟩
      rotate_right 1
      · simp at hvl
      · simp at hvl
      · simp at hvl
      · simp at hvl
      · simp at hvl
      · simp at hvl
      · simp at hvl
      · simp at hvl
      · have htb : (.tab : SP).p z0 wR := hvp 0 (by omega)
        have hmk : ((.va [.zero, .zero, .zero]) : SP).p z1 wR := hvp 1 (by omega)
        obtain rfl : z2 = (exV (.slice At E.args.length ct) E) := hvp 2 (by omega)
        obtain rfl : z3 = (.tuple #[valV F.1, .int .i64 F.2]) := hvp 3 (by omega)
        obtain rfl : z4 = (.tuple #[valV F.1, .int .i64 F.2]) := hvp 4 (by omega)
        obtain rfl : z5 = (valV F.1) := hvp 5 (by omega)
        have hfr : ((.fresh W0.heap.size 23 (valCs .zero)) : SP).p z7 wR := hvp 6 (by omega)
        clear hvl hvp
        simp only [putAll, Act.put, List.setIfInBounds_toArray, List.set_cons_succ, List.set_cons_zero, List.take_succ_cons, List.take_zero, List.drop_succ_cons, List.drop_zero, List.eraseIdx_cons_succ, List.eraseIdx_cons_zero]
        obtain ⟨g, rfl, hg, hrg⟩ := hfr
        have y0 : wR.cell? ⟨g, 0, none⟩ = some (.int .i64 0) := hrg.cell 0
        have y1 : wR.cell? ⟨g, 1, none⟩ = some (.int .i64 0) := hrg.cell 1
        have y2 : wR.cell? ⟨g, 2, none⟩ = some (.string (str [])) := hrg.cell 2
        have x0 : wR.frozen? ⟨g, 0, none⟩ = false := hrg.frozen 0
        have x1 : wR.frozen? ⟨g, 1, none⟩ = false := hrg.frozen 1
        have x2 : wR.frozen? ⟨g, 2, none⟩ = false := hrg.frozen 2
        have Hrg := Lib.hid hrg
        have HsR := Lib.hid hsR
        have zG := hrg.lt
        clear hsR hrg 
        go_wp2
        go_meet
        exact ⟨_, g, rfl, rfl, rfl, hg, Hrg.out.set3 _, HsR.out.set3 (fun h => by omega) _ _ _⟩
  case rest =>
    obtain ⟨W5, g, rfl, rfl, rfl, hg, hr, hSx⟩ := hcut
    have HSx := Lib.hid (HS4.out.trans hSx)
    have Hr := Lib.hid hr
    have hF1 : F.1 = ⟨1, 1, []⟩ := by rw [HF.out]
    have hF2 : F.2 = 0 := by rw [HF.out]
    rw [hF1] at Hr
    rw [hF2]
    clear hSx hr hF1 hF2 Hev k0 k1 k2 k3 k4 k5 z3 hmk
    go_wp2_with (go_at_call 12; refine stopAt ?_)
    unfold Hid
    refine (table_any _).mono ?_
    rintro e' w5 ⟨v5, rfl, ⟨u5, rfl, ht5⟩, hS5⟩
    have Ht5 := Lib.hid ht5
    have HS5 := Lib.hid hS5
    clear hS5 ht5
    go_wp2_with (go_at_call 23; refine stopAt ?_)
    unfold Hid
    refine (name_any [83] _).mono ?_
    rintro e' w6 ⟨rfl, hS6⟩
    have HS6 := Lib.hid hS6
    have hty := exType_v _ (.slice none 0 0) (.mk 2 [83] .zero []) w6 ⟨u5, rfl, Ht5.out.keepAll hS6⟩ (ExR.leaf _ _ _ _ _) (by decide)
    rw [begS_kind] at hty
    clear hS6
    go_wp2_with (go_at_call 13; refine stopAt ?_)
    unfold Hid
    refine hty.mono ?_
    rintro e' w7 ⟨rfl, hS7⟩
    have HS7 := Lib.hid ((HS5.out.trans HS6.out).trans hS7)
    have hr7 := Hr.out.keep HS7.out trivial
    have c0 : w7.cell? ⟨g, 0, none⟩ = some (.int .i64 1) := hr7.cell 0
    have c1 : w7.cell? ⟨g, 1, none⟩ = some (.int .i64 1) := hr7.cell 1
    have c2 : w7.cell? ⟨g, 2, none⟩ = some (.string (str [])) := hr7.cell 2
    clear hS7 hr7 hty
    have gT1 : ∀ W, Calls Try.prog 17 #[.agg #[.int .i64 1, .int .i64 1, .string (str [])]] W (BoolP true W) := fun W => exTrue_any ⟨1, 1, []⟩ W
    have gT0 : ∀ W, Calls Try.prog 17 #[.agg #[.int .i64 0, .int .i64 0, .string ⟨#[]⟩]] W (BoolP false W) := fun W => exTrue_any .zero W
    go_wp2_with (go_at_call 17; refine stopAt ?_)
    unfold Hid
    refine (gT1 _).mono ?_
    rintro e' w8 ⟨rfl, hS8⟩
    have HS8 := Lib.hid hS8
    clear hS8
    go_wp2_with (go_at_call 17; refine stopAt ?_)
    unfold Hid
    refine (gT0 _).mono ?_
    rintro e' w9 ⟨rfl, hS9⟩
    have HS9 := Lib.hid hS9
    clear hS9
    go_wp2
    go_ret
    exact ⟨rfl, HSx.out.trans (HS7.out.trans (HS8.out.trans HS9.out))⟩
end Go.Proofs.Ytakbikibahhepaa
