/-
  The walk of ExprOrder.
-/
import Derived.Test.YtakbikibahhepaaExL1
set_option linter.unusedSimpArgs false
set_option linter.unusedVariables false
namespace Go.Proofs.Ytakbikibahhepaa
open Go.RowKit

set_option maxRecDepth 100000 in
set_option maxHeartbeats 16000000 in
theorem order_walk (a b : Val) (rv : Value) (ha : i64B a.n = true) (hb : i64B b.n = true) (w : World) :
    Calls Try.prog 6 #[valV a, valV b, rv] w (BoolP true w) := by
  obtain ⟨ok, hOrd⟩ := ord_facts a b
  have evL := fun (W : World) (t rv : Value) (h : TreeVal W t (cmpE [60] a b)) (h2 : VaR W (fun _ => True) rv zeros) => valuew_any t rv zeros (cmpE [60] a b) W h h2 (by simp [cmpE, Ex.size, sizeL]) (.two _ (.leaf _ _ ha) (.leaf _ _ hb)) zeros_i64
  obtain ⟨L, hL⟩ : ∃ X, evalTF cols3 zeros (cmpE [60] a b) = X := ⟨_, rfl⟩
  rw [hL] at evL hOrd
  have evM := fun (W : World) (t rv : Value) (h : TreeVal W t (cmpE [62] b a)) (h2 : VaR W (fun _ => True) rv zeros) => valuew_any t rv zeros (cmpE [62] b a) W h h2 (by simp [cmpE, Ex.size, sizeL]) (.two _ (.leaf _ _ hb) (.leaf _ _ ha)) zeros_i64
  obtain ⟨M, hM⟩ : ∃ X, evalTF cols3 zeros (cmpE [62] b a) = X := ⟨_, rfl⟩
  rw [hM] at evM hOrd
  have evQ := fun (W : World) (t rv : Value) (h : TreeVal W t (cmpE [61] a b)) (h2 : VaR W (fun _ => True) rv zeros) => valuew_any t rv zeros (cmpE [61] a b) W h h2 (by simp [cmpE, Ex.size, sizeL]) (.two _ (.leaf _ _ ha) (.leaf _ _ hb)) zeros_i64
  obtain ⟨Q, hQ⟩ : ∃ X, evalTF cols3 zeros (cmpE [61] a b) = X := ⟨_, rfl⟩
  rw [hQ] at evQ hOrd
  have evO := fun (W : World) (t rv : Value) (h : TreeVal W t (cmpE [60, 62] a b)) (h2 : VaR W (fun _ => True) rv zeros) => valuew_any t rv zeros (cmpE [60, 62] a b) W h h2 (by simp [cmpE, Ex.size, sizeL]) (.two _ (.leaf _ _ ha) (.leaf _ _ hb)) zeros_i64
  obtain ⟨O, hO⟩ : ∃ X, evalTF cols3 zeros (cmpE [60, 62] a b) = X := ⟨_, rfl⟩
  rw [hO] at evO hOrd
  have evY := fun (W : World) (t rv : Value) (h : TreeVal W t (cmpE [60, 61] a b)) (h2 : VaR W (fun _ => True) rv zeros) => valuew_any t rv zeros (cmpE [60, 61] a b) W h h2 (by simp [cmpE, Ex.size, sizeL]) (.two _ (.leaf _ _ ha) (.leaf _ _ hb)) zeros_i64
  obtain ⟨Y, hY⟩ : ∃ X, evalTF cols3 zeros (cmpE [60, 61] a b) = X := ⟨_, rfl⟩
  rw [hY] at evY hOrd
  have HOrd := Lib.hid hOrd
  have EvL := Lib.hid evL
  have EvM := Lib.hid evM
  have EvQ := Lib.hid evQ
  have EvO := Lib.hid evO
  have EvY := Lib.hid evY
  clear hOrd hL evL hM evM hQ evQ hO evO hY evY
  go_enter Try.func6, Try.ntmps6
  go_wp2_with (go_at_call 10; refine stopAt ?_)
  unfold Hid
  have hSb := ((Same.refl (fun _ => True) w).alloc (.cells (valCs a).toArray 23)).alloc (.cells (valCs b).toArray 23)
  have hra := (Row.new w 23 (valCs a)).keep ((Same.refl (fun _ => True) _).alloc (.cells (valCs b).toArray 23)) trivial
  have hrb := Row.new (w.alloc (.cells (valCs a).toArray 23)) 23 (valCs b)
  rw [World.size_alloc] at hrb
  refine (begun_any _).mono ?_
  rintro e' w1 ⟨rfl, hS1⟩
  have HS1 := Lib.hid (hSb.trans hS1)
  have Hra := Lib.hid (hra.keep hS1 trivial)
  have Hrb := Lib.hid (hrb.keep hS1 trivial)
  clear hSb hra hrb hS1
  have hmk := make3
  obtain ⟨ZA, hZA⟩ : ∃ Z, Z = ([Val.zero, .zero, .zero].flatMap valCs).toArray := ⟨_, rfl⟩
  rw [← hZA] at hmk
  have HZA := Lib.hid hZA
  clear hZA
  go_wp2_with (with_reducible refine stopDst 21 rfl ?_)
  have hrow := VaR.fresh3 w1
  rw [← HZA.out] at hrow
  have hS2 := (Same.refl (fun _ => True) w1).alloc (.cells ZA 23)
  obtain ⟨W2, hW2⟩ : ∃ W2, W2 = w1.alloc (.cells ZA 23) := ⟨_, rfl⟩
  have e0 := hW2
  rw [← hW2] at hrow hS2
  rw [← e0]
  have Hrow := Lib.hid hrow
  have HS2 := Lib.hid (HS1.out.trans hS2)
  have hra := Hra.out.keep hS2 trivial
  have hrb := Hrb.out.keep hS2 trivial
  have hw2 : w1.heap.size < W2.heap.size := by rw [hW2]; simp
  generalize hg0 : w1.heap.size = g0 at *
  clear hg0 hS2 hW2 e0 hmk
  have a0 : W2.cell? ⟨w.heap.size, 0, none⟩ = some (.int .i64 a.kind) := hra.cell 0
  have a1 : W2.cell? ⟨w.heap.size, 1, none⟩ = some (.int .i64 a.n) := hra.cell 1
  have a2 : W2.cell? ⟨w.heap.size, 2, none⟩ = some (.string (str a.s)) := hra.cell 2
  have b0 : W2.cell? ⟨w.heap.size + 1, 0, none⟩ = some (.int .i64 b.kind) := hrb.cell 0
  have b1 : W2.cell? ⟨w.heap.size + 1, 1, none⟩ = some (.int .i64 b.n) := hrb.cell 1
  have b2 : W2.cell? ⟨w.heap.size + 1, 2, none⟩ = some (.string (str b.s)) := hrb.cell 2
  have za := hra.lt
  have zb := hrb.lt
  have Hra := Lib.hid hra
  have Hrb := Lib.hid hrb
  clear hra hrb
  go_upto_region 4 with (fail)
  go_cut [7, 8] from 20 to 30 (fun vA vB wx => ∃ (W3 : World) (g : Nat), W3 = wx ∧ vA = .pointer (some ⟨g, 0, none⟩) ∧ vB = .bool (decide (L.2 = 0)) ∧ W2.heap.size ≤ g ∧ Row W3 g 23 (valCs L.1) ∧ Same (fun _ => True) W2 W3)
  case first =>
    refine wp_region_tail_d (L := [.eq (valV a), .eq (exV (.slice none 0 0) (.mk 1 [] a [])), .eq (valV b), .eq (exV (.slice none 0 0) (.mk 1 [] b [])), .of (.exl [(.mk 1 [] a []), (.mk 1 [] b [])]), .of (.tree (.mk 3 [60] .zero [(.mk 1 [] a []), (.mk 1 [] b [])])), .eq (.slice (some ⟨g0, 0, none⟩) 3 3), .eq (.tuple #[valV L.1, .bool (decide (L.2 = 0))]), .eq (.tuple #[valV L.1, .bool (decide (L.2 = 0))]), .eq (valV L.1), .eq (.bool (decide (L.2 = 0))), .of (.fresh W2.heap.size 23 (valCs .zero))]) 12 10 (by omega) (by kernel_rfl) (by kernel_rfl) rfl rfl rfl rfl rfl rfl ?_ ?_ ?_
    · refine ⟨?_, ?_, ?_, ?_, ?_, ?_, ?_, ?_, ?_, ?_, ?_, ?_, trivial⟩
      · intro ac wc hs hd hz hf hw K hK
        have e0 : ac.eval (.tmp 3) = (.pointer (some ⟨w.heap.size, 0, none⟩)) := hf 3 rfl
        have m0 : wc.cell? ⟨w.heap.size, 0, none⟩ = some (.int .i64 a.kind) := hs.cell (p := ⟨w.heap.size, 0, none⟩) trivial a0
        have m1 : wc.cell? ⟨w.heap.size, 1, none⟩ = some (.int .i64 a.n) := hs.cell (p := ⟨w.heap.size, 1, none⟩) trivial a1
        have m2 : wc.cell? ⟨w.heap.size, 2, none⟩ = some (.string (str a.s)) := hs.cell (p := ⟨w.heap.size, 2, none⟩) trivial a2
        clear hd hz hf hw
        simp only [Region.wanted, if_true, Oper.wp, execOp, resolve, List.map_toArray, List.map_cons, List.map_nil, Option.map_some, Option.map_none, e0]
        go_simp
        exact hK _ _ rfl (Same.refl _ _)
      · intro ac wc hs hd hz hf hw K hK
        have e0 : ac.eval (.tmp 21) = (valV a) := hw 0 rfl
        clear hd hz hf hw
        simp only [Region.wanted, if_true, Oper.wp, execOp, resolve, List.map_toArray, List.map_cons, List.map_nil, Option.map_some, Option.map_none, e0]
        go_simp
        refine (lit_any a _).mono ?_
        rintro e wd ⟨rfl, hs2⟩
        exact hK _ _ rfl hs2
      · intro ac wc hs hd hz hf hw K hK
        have e0 : ac.eval (.tmp 4) = (.pointer (some ⟨w.heap.size + 1, 0, none⟩)) := hf 4 rfl
        have m0 : wc.cell? ⟨w.heap.size + 1, 0, none⟩ = some (.int .i64 b.kind) := hs.cell (p := ⟨w.heap.size + 1, 0, none⟩) trivial b0
        have m1 : wc.cell? ⟨w.heap.size + 1, 1, none⟩ = some (.int .i64 b.n) := hs.cell (p := ⟨w.heap.size + 1, 1, none⟩) trivial b1
        have m2 : wc.cell? ⟨w.heap.size + 1, 2, none⟩ = some (.string (str b.s)) := hs.cell (p := ⟨w.heap.size + 1, 2, none⟩) trivial b2
        clear hd hz hf hw
        simp only [Region.wanted, if_true, Oper.wp, execOp, resolve, List.map_toArray, List.map_cons, List.map_nil, Option.map_some, Option.map_none, e0]
        go_simp
        exact hK _ _ rfl (Same.refl _ _)
      · intro ac wc hs hd hz hf hw K hK
        have e0 : ac.eval (.tmp 23) = (valV b) := hw 2 rfl
        clear hd hz hf hw
        simp only [Region.wanted, if_true, Oper.wp, execOp, resolve, List.map_toArray, List.map_cons, List.map_nil, Option.map_some, Option.map_none, e0]
        go_simp
        refine (lit_any b _).mono ?_
        rintro e wd ⟨rfl, hs2⟩
        exact hK _ _ rfl hs2
      · intro ac wc hs hd hz hf hw K hK
        have e0 : ac.eval (.tmp 22) = (exV (.slice none 0 0) (.mk 1 [] a [])) := hw 1 rfl
        have e1 : ac.eval (.tmp 24) = (exV (.slice none 0 0) (.mk 1 [] b [])) := hw 3 rfl
        clear hd hz hf hw
        simp only [Region.wanted, if_true, Oper.wp, execOp, resolve, List.map_toArray, List.map_cons, List.map_nil, Option.map_some, Option.map_none, e0, e1]
        go_simp
        exact hK _ _ (ExL.fresh2 wc (ExR.leaf wc _ _ _ _) (ExR.leaf wc _ _ _ _)) ((Same.refl _ _).alloc _)
      · intro ac wc hs hd hz hf hw K hK
        have p0 : ((.exl [(.mk 1 [] a []), (.mk 1 [] b [])]) : SP).p (ac.eval (.tmp 25)) wc := hw 4 rfl
        obtain ⟨u0, e0⟩ : ∃ u, ac.eval (.tmp 25) = u := ⟨_, rfl⟩
        rw [e0] at p0
        clear hd hz hf hw
        simp only [Region.wanted, if_true, Oper.wp, execOp, resolve, List.map_toArray, List.map_cons, List.map_nil, Option.map_some, Option.map_none, e0]
        go_simp
        refine (op_v _ [60] _ _ p0).mono ?_
        rintro e wd ⟨vt, rfl, ht9, hs9⟩
        exact hK _ _ ht9 hs9
      · intro ac wc hs hd hz hf hw K hK
        have e0 : ac.eval (.tmp 2) = (.slice (some ⟨g0, 0, none⟩) 3 3) := hf 2 rfl
        clear hd hz hf hw
        simp only [Region.wanted, if_true, Oper.wp, execOp, resolve, List.map_toArray, List.map_cons, List.map_nil, Option.map_some, Option.map_none, e0]
        go_simp
        exact hK _ _ rfl (Same.refl _ _)
      · intro ac wc hs hd hz hf hw K hK
        have p0 : ((.tree (.mk 3 [60] .zero [(.mk 1 [] a []), (.mk 1 [] b [])])) : SP).p (ac.eval (.tmp 26)) wc := hw 5 rfl
        obtain ⟨u0, e0⟩ : ∃ u, ac.eval (.tmp 26) = u := ⟨_, rfl⟩
        rw [e0] at p0
        have e1 : ac.eval (.tmp 27) = (.slice (some ⟨g0, 0, none⟩) 3 3) := hw 6 rfl
        clear hd hz hf hw
        simp only [Region.wanted, if_true, Oper.wp, execOp, resolve, List.map_toArray, List.map_cons, List.map_nil, Option.map_some, Option.map_none, e0, e1]
        go_simp
        refine (EvL.out _ _ _ p0 (RowR.keepAll Hrow.out hs)).mono ?_
        rintro e wd ⟨rfl, hs2⟩
        exact hK _ _ rfl hs2
      · intro ac wc hs hd hz hf hw K hK
        have e0 : ac.eval (.tmp 28) = (.tuple #[valV L.1, .bool (decide (L.2 = 0))]) := hw 7 rfl
        clear hd hz hf hw
        simp only [Region.wanted, if_true, Oper.wp, execOp, resolve, List.map_toArray, List.map_cons, List.map_nil, Option.map_some, Option.map_none, e0]
        go_simp
        exact hK _ _ rfl (Same.refl _ _)
      · intro ac wc hs hd hz hf hw K hK
        have e0 : ac.eval (.tmp 20) = (.tuple #[valV L.1, .bool (decide (L.2 = 0))]) := hw 8 rfl
        clear hd hz hf hw
        simp only [Region.wanted, if_true, Oper.wp, execOp, resolve, List.map_toArray, List.map_cons, List.map_nil, Option.map_some, Option.map_none, e0]
        go_simp
        exact hK _ _ rfl (Same.refl _ _)
      · intro ac wc hs hd hz hf hw K hK
        have e0 : ac.eval (.tmp 20) = (.tuple #[valV L.1, .bool (decide (L.2 = 0))]) := hw 8 rfl
        clear hd hz hf hw
        simp only [Region.wanted, if_true, Oper.wp, execOp, resolve, List.map_toArray, List.map_cons, List.map_nil, Option.map_some, Option.map_none, e0]
        go_simp
        exact hK _ _ rfl (Same.refl _ _)
      · intro ac wc hs hd hz hf hw K hK
        clear hd hz hf hw
        simp only [Region.wanted, if_true, Oper.wp, execOp, resolve, List.map_toArray, List.map_cons, List.map_nil, Option.map_some, Option.map_none]
        go_simp
        exact hK _ _ ⟨_, rfl, hs.size, Row.new wc _ (valCs .zero)⟩ ((Same.refl _ _).alloc _)
    · intro vs wR hvl hvp hsR
      rcases vs with _ | ⟨z0, _ | ⟨z1, _ | ⟨z2, _ | ⟨z3, _ | ⟨z4, _ | ⟨z5, _ | ⟨z6, _ | ⟨z7, _ | ⟨z8, _ | ⟨z9, _ | ⟨z10, _ | ⟨z11, _ | ⟨zz, zr⟩⟩⟩⟩⟩⟩⟩⟩⟩⟩⟩⟩⟩
      rotate_right 1
      · simp at hvl
      · simp at hvl
      · simp at hvl
      · simp at hvl
      · simp at hvl
      · simp at hvl
      · simp at hvl
      · simp at hvl
      · simp at hvl
      · simp at hvl
      · simp at hvl
      · simp at hvl
      · simp at hvl
      · obtain rfl : z0 = (valV a) := hvp 0 (by omega)
        obtain rfl : z1 = (exV (.slice none 0 0) (.mk 1 [] a [])) := hvp 1 (by omega)
        obtain rfl : z2 = (valV b) := hvp 2 (by omega)
        obtain rfl : z3 = (exV (.slice none 0 0) (.mk 1 [] b [])) := hvp 3 (by omega)
        have hsl25 : ((.exl [(.mk 1 [] a []), (.mk 1 [] b [])]) : SP).p z4 wR := hvp 4 (by omega)
        have htr26 : ((.tree (.mk 3 [60] .zero [(.mk 1 [] a []), (.mk 1 [] b [])])) : SP).p z5 wR := hvp 5 (by omega)
        obtain rfl : z6 = (.slice (some ⟨g0, 0, none⟩) 3 3) := hvp 6 (by omega)
        obtain rfl : z7 = (.tuple #[valV L.1, .bool (decide (L.2 = 0))]) := hvp 7 (by omega)
        obtain rfl : z8 = (.tuple #[valV L.1, .bool (decide (L.2 = 0))]) := hvp 8 (by omega)
        obtain rfl : z9 = (valV L.1) := hvp 9 (by omega)
        obtain rfl : z10 = (.bool (decide (L.2 = 0))) := hvp 10 (by omega)
        have hfr : ((.fresh W2.heap.size 23 (valCs .zero)) : SP).p z11 wR := hvp 11 (by omega)
        clear hvl hvp
        simp only [putAll, Act.put, List.setIfInBounds_toArray, List.set_cons_succ, List.set_cons_zero, List.take_succ_cons, List.take_zero, List.drop_succ_cons, List.drop_zero, List.eraseIdx_cons_succ, List.eraseIdx_cons_zero]
        obtain ⟨g, rfl, hg, hrg⟩ := hfr
        have y0 : wR.cell? ⟨g, 0, none⟩ = some (.int .i64 0) := hrg.cell 0
        have y1 : wR.cell? ⟨g, 1, none⟩ = some (.int .i64 0) := hrg.cell 1
        have y2 : wR.cell? ⟨g, 2, none⟩ = some (.string (str [])) := hrg.cell 2
        have x0 : wR.frozen? ⟨g, 0, none⟩ = false := hrg.frozen 0
        have x1 : wR.frozen? ⟨g, 1, none⟩ = false := hrg.frozen 1
        have x2 : wR.frozen? ⟨g, 2, none⟩ = false := hrg.frozen 2
        have Hrg := Lib.hid hrg
        have HsR := Lib.hid hsR
        have zG := hrg.lt
        clear hsR hrg 
        go_wp2
        go_meet
        exact ⟨_, g, rfl, rfl, rfl, hg, Hrg.out.set3 _, HsR.out.set3 (fun h => by omega) _ _ _⟩
    · intro vs wR hvl hvp hsR
      rcases vs with _ | ⟨z0, _ | ⟨z1, _ | ⟨z2, _ | ⟨z3, _ | ⟨z4, _ | ⟨z5, _ | ⟨z6, _ | ⟨z7, _ | ⟨z8, _ | ⟨z9, _ | ⟨z11, _ | ⟨zz, zr⟩⟩⟩⟩⟩⟩⟩⟩⟩⟩⟩⟩
      rotate_right 1
      · simp at hvl
      · simp at hvl
      · simp at hvl
      · simp at hvl
      · simp at hvl
      · simp at hvl
      · simp at hvl
      · simp at hvl
      · simp at hvl
      · simp at hvl
      · simp at hvl
      · simp at hvl
      · obtain rfl : z0 = (valV a) := hvp 0 (by omega)
        obtain rfl : z1 = (exV (.slice none 0 0) (.mk 1 [] a [])) := hvp 1 (by omega)
        obtain rfl : z2 = (valV b) := hvp 2 (by omega)
        obtain rfl : z3 = (exV (.slice none 0 0) (.mk 1 [] b [])) := hvp 3 (by omega)
        have hsl25 : ((.exl [(.mk 1 [] a []), (.mk 1 [] b [])]) : SP).p z4 wR := hvp 4 (by omega)
        have htr26 : ((.tree (.mk 3 [60] .zero [(.mk 1 [] a []), (.mk 1 [] b [])])) : SP).p z5 wR := hvp 5 (by omega)
        obtain rfl : z6 = (.slice (some ⟨g0, 0, none⟩) 3 3) := hvp 6 (by omega)
        obtain rfl : z7 = (.tuple #[valV L.1, .bool (decide (L.2 = 0))]) := hvp 7 (by omega)
        obtain rfl : z8 = (.tuple #[valV L.1, .bool (decide (L.2 = 0))]) := hvp 8 (by omega)
        obtain rfl : z9 = (valV L.1) := hvp 9 (by omega)
        have hfr : ((.fresh W2.heap.size 23 (valCs .zero)) : SP).p z11 wR := hvp 10 (by omega)
        clear hvl hvp
        simp only [putAll, Act.put, List.setIfInBounds_toArray, List.set_cons_succ, List.set_cons_zero, List.take_succ_cons, List.take_zero, List.drop_succ_cons, List.drop_zero, List.eraseIdx_cons_succ, List.eraseIdx_cons_zero]
        obtain ⟨g, rfl, hg, hrg⟩ := hfr
        have y0 : wR.cell? ⟨g, 0, none⟩ = some (.int .i64 0) := hrg.cell 0
        have y1 : wR.cell? ⟨g, 1, none⟩ = some (.int .i64 0) := hrg.cell 1
        have y2 : wR.cell? ⟨g, 2, none⟩ = some (.string (str [])) := hrg.cell 2
        have x0 : wR.frozen? ⟨g, 0, none⟩ = false := hrg.frozen 0
        have x1 : wR.frozen? ⟨g, 1, none⟩ = false := hrg.frozen 1
        have x2 : wR.frozen? ⟨g, 2, none⟩ = false := hrg.frozen 2
        have Hrg := Lib.hid hrg
        have HsR := Lib.hid hsR
        have zG := hrg.lt
        clear hsR hrg 
        go_wp2
        go_meet
        exact ⟨_, g, rfl, rfl, rfl, hg, Hrg.out.set3 _, HsR.out.set3 (fun h => by omega) _ _ _⟩
  case rest =>
    obtain ⟨W3, g3, rfl, rfl, rfl, hg3, hr3, hS3⟩ := hcut
    have hrow := RowR.keepAll Hrow.out hS3
    have hra := Hra.out.keep hS3 trivial
    have hrb := Hrb.out.keep hS3 trivial
    have HS3 := Lib.hid (HS2.out.trans hS3)
    clear hS3 Hra Hrb Hrow a0 a1 a2 b0 b1 b2 za zb
    have Hrow := Lib.hid hrow
    have Hr3 := Lib.hid hr3
    clear hrow hr3
    have a0 : W3.cell? ⟨w.heap.size, 0, none⟩ = some (.int .i64 a.kind) := hra.cell 0
    have a1 : W3.cell? ⟨w.heap.size, 1, none⟩ = some (.int .i64 a.n) := hra.cell 1
    have a2 : W3.cell? ⟨w.heap.size, 2, none⟩ = some (.string (str a.s)) := hra.cell 2
    have b0 : W3.cell? ⟨w.heap.size + 1, 0, none⟩ = some (.int .i64 b.kind) := hrb.cell 0
    have b1 : W3.cell? ⟨w.heap.size + 1, 1, none⟩ = some (.int .i64 b.n) := hrb.cell 1
    have b2 : W3.cell? ⟨w.heap.size + 1, 2, none⟩ = some (.string (str b.s)) := hrb.cell 2
    have za := hra.lt
    have zb := hrb.lt
    have Hra := Lib.hid hra
    have Hrb := Lib.hid hrb
    clear hra hrb
    go_wp2
    go_upto_region 5 with (fail)
    go_cut [9, 10] from 31 to 41 (fun vA vB wx => ∃ (W4 : World) (g : Nat), W4 = wx ∧ vA = .pointer (some ⟨g, 0, none⟩) ∧ vB = .bool (decide (M.2 = 0)) ∧ W3.heap.size ≤ g ∧ Row W4 g 23 (valCs M.1) ∧ Same (fun _ => True) W3 W4)
    case first =>
      refine wp_region_tail_d (L := [.eq (valV b), .eq (exV (.slice none 0 0) (.mk 1 [] b [])), .eq (valV a), .eq (exV (.slice none 0 0) (.mk 1 [] a [])), .of (.exl [(.mk 1 [] b []), (.mk 1 [] a [])]), .of (.tree (.mk 3 [62] .zero [(.mk 1 [] b []), (.mk 1 [] a [])])), .eq (.slice (some ⟨g0, 0, none⟩) 3 3), .eq (.tuple #[valV M.1, .bool (decide (M.2 = 0))]), .eq (.tuple #[valV M.1, .bool (decide (M.2 = 0))]), .eq (valV M.1), .eq (.bool (decide (M.2 = 0))), .of (.fresh W3.heap.size 23 (valCs .zero))]) 12 10 (by omega) (by kernel_rfl) (by kernel_rfl) rfl rfl rfl rfl rfl rfl ?_ ?_ ?_
      · refine ⟨?_, ?_, ?_, ?_, ?_, ?_, ?_, ?_, ?_, ?_, ?_, ?_, trivial⟩
        · intro ac wc hs hd hz hf hw K hK
          have e0 : ac.eval (.tmp 4) = (.pointer (some ⟨w.heap.size + 1, 0, none⟩)) := hf 4 rfl
          have m0 : wc.cell? ⟨w.heap.size + 1, 0, none⟩ = some (.int .i64 b.kind) := hs.cell (p := ⟨w.heap.size + 1, 0, none⟩) trivial b0
          have m1 : wc.cell? ⟨w.heap.size + 1, 1, none⟩ = some (.int .i64 b.n) := hs.cell (p := ⟨w.heap.size + 1, 1, none⟩) trivial b1
          have m2 : wc.cell? ⟨w.heap.size + 1, 2, none⟩ = some (.string (str b.s)) := hs.cell (p := ⟨w.heap.size + 1, 2, none⟩) trivial b2
          clear hd hz hf hw
          simp only [Region.wanted, if_true, Oper.wp, execOp, resolve, List.map_toArray, List.map_cons, List.map_nil, Option.map_some, Option.map_none, e0]
          go_simp
          exact hK _ _ rfl (Same.refl _ _)
        · intro ac wc hs hd hz hf hw K hK
          have e0 : ac.eval (.tmp 32) = (valV b) := hw 0 rfl
          clear hd hz hf hw
          simp only [Region.wanted, if_true, Oper.wp, execOp, resolve, List.map_toArray, List.map_cons, List.map_nil, Option.map_some, Option.map_none, e0]
          go_simp
          refine (lit_any b _).mono ?_
          rintro e wd ⟨rfl, hs2⟩
          exact hK _ _ rfl hs2
        · intro ac wc hs hd hz hf hw K hK
          have e0 : ac.eval (.tmp 3) = (.pointer (some ⟨w.heap.size, 0, none⟩)) := hf 3 rfl
          have m0 : wc.cell? ⟨w.heap.size, 0, none⟩ = some (.int .i64 a.kind) := hs.cell (p := ⟨w.heap.size, 0, none⟩) trivial a0
          have m1 : wc.cell? ⟨w.heap.size, 1, none⟩ = some (.int .i64 a.n) := hs.cell (p := ⟨w.heap.size, 1, none⟩) trivial a1
          have m2 : wc.cell? ⟨w.heap.size, 2, none⟩ = some (.string (str a.s)) := hs.cell (p := ⟨w.heap.size, 2, none⟩) trivial a2
          clear hd hz hf hw
          simp only [Region.wanted, if_true, Oper.wp, execOp, resolve, List.map_toArray, List.map_cons, List.map_nil, Option.map_some, Option.map_none, e0]
          go_simp
          exact hK _ _ rfl (Same.refl _ _)
        · intro ac wc hs hd hz hf hw K hK
          have e0 : ac.eval (.tmp 34) = (valV a) := hw 2 rfl
          clear hd hz hf hw
          simp only [Region.wanted, if_true, Oper.wp, execOp, resolve, List.map_toArray, List.map_cons, List.map_nil, Option.map_some, Option.map_none, e0]
          go_simp
          refine (lit_any a _).mono ?_
          rintro e wd ⟨rfl, hs2⟩
          exact hK _ _ rfl hs2
        · intro ac wc hs hd hz hf hw K hK
          have e0 : ac.eval (.tmp 33) = (exV (.slice none 0 0) (.mk 1 [] b [])) := hw 1 rfl
          have e1 : ac.eval (.tmp 35) = (exV (.slice none 0 0) (.mk 1 [] a [])) := hw 3 rfl
          clear hd hz hf hw
          simp only [Region.wanted, if_true, Oper.wp, execOp, resolve, List.map_toArray, List.map_cons, List.map_nil, Option.map_some, Option.map_none, e0, e1]
          go_simp
          exact hK _ _ (ExL.fresh2 wc (ExR.leaf wc _ _ _ _) (ExR.leaf wc _ _ _ _)) ((Same.refl _ _).alloc _)
        · intro ac wc hs hd hz hf hw K hK
          have p0 : ((.exl [(.mk 1 [] b []), (.mk 1 [] a [])]) : SP).p (ac.eval (.tmp 36)) wc := hw 4 rfl
          obtain ⟨u0, e0⟩ : ∃ u, ac.eval (.tmp 36) = u := ⟨_, rfl⟩
          rw [e0] at p0
          clear hd hz hf hw
          simp only [Region.wanted, if_true, Oper.wp, execOp, resolve, List.map_toArray, List.map_cons, List.map_nil, Option.map_some, Option.map_none, e0]
          go_simp
          refine (op_v _ [62] _ _ p0).mono ?_
          rintro e wd ⟨vt, rfl, ht9, hs9⟩
          exact hK _ _ ht9 hs9
        · intro ac wc hs hd hz hf hw K hK
          have e0 : ac.eval (.tmp 2) = (.slice (some ⟨g0, 0, none⟩) 3 3) := hf 2 rfl
          clear hd hz hf hw
          simp only [Region.wanted, if_true, Oper.wp, execOp, resolve, List.map_toArray, List.map_cons, List.map_nil, Option.map_some, Option.map_none, e0]
          go_simp
          exact hK _ _ rfl (Same.refl _ _)
        · intro ac wc hs hd hz hf hw K hK
          have p0 : ((.tree (.mk 3 [62] .zero [(.mk 1 [] b []), (.mk 1 [] a [])])) : SP).p (ac.eval (.tmp 37)) wc := hw 5 rfl
          obtain ⟨u0, e0⟩ : ∃ u, ac.eval (.tmp 37) = u := ⟨_, rfl⟩
          rw [e0] at p0
          have e1 : ac.eval (.tmp 38) = (.slice (some ⟨g0, 0, none⟩) 3 3) := hw 6 rfl
          clear hd hz hf hw
          simp only [Region.wanted, if_true, Oper.wp, execOp, resolve, List.map_toArray, List.map_cons, List.map_nil, Option.map_some, Option.map_none, e0, e1]
          go_simp
          refine (EvM.out _ _ _ p0 (RowR.keepAll Hrow.out hs)).mono ?_
          rintro e wd ⟨rfl, hs2⟩
          exact hK _ _ rfl hs2
        · intro ac wc hs hd hz hf hw K hK
          have e0 : ac.eval (.tmp 39) = (.tuple #[valV M.1, .bool (decide (M.2 = 0))]) := hw 7 rfl
          clear hd hz hf hw
          simp only [Region.wanted, if_true, Oper.wp, execOp, resolve, List.map_toArray, List.map_cons, List.map_nil, Option.map_some, Option.map_none, e0]
          go_simp
          exact hK _ _ rfl (Same.refl _ _)
        · intro ac wc hs hd hz hf hw K hK
          have e0 : ac.eval (.tmp 31) = (.tuple #[valV M.1, .bool (decide (M.2 = 0))]) := hw 8 rfl
          clear hd hz hf hw
          simp only [Region.wanted, if_true, Oper.wp, execOp, resolve, List.map_toArray, List.map_cons, List.map_nil, Option.map_some, Option.map_none, e0]
          go_simp
          exact hK _ _ rfl (Same.refl _ _)
        · intro ac wc hs hd hz hf hw K hK
          have e0 : ac.eval (.tmp 31) = (.tuple #[valV M.1, .bool (decide (M.2 = 0))]) := hw 8 rfl
          clear hd hz hf hw
          simp only [Region.wanted, if_true, Oper.wp, execOp, resolve, List.map_toArray, List.map_cons, List.map_nil, Option.map_some, Option.map_none, e0]
          go_simp
          exact hK _ _ rfl (Same.refl _ _)
        · intro ac wc hs hd hz hf hw K hK
          clear hd hz hf hw
          simp only [Region.wanted, if_true, Oper.wp, execOp, resolve, List.map_toArray, List.map_cons, List.map_nil, Option.map_some, Option.map_none]
          go_simp
          exact hK _ _ ⟨_, rfl, hs.size, Row.new wc _ (valCs .zero)⟩ ((Same.refl _ _).alloc _)
      · intro vs wR hvl hvp hsR
        rcases vs with _ | ⟨z0, _ | ⟨z1, _ | ⟨z2, _ | ⟨z3, _ | ⟨z4, _ | ⟨z5, _ | ⟨z6, _ | ⟨z7, _ | ⟨z8, _ | ⟨z9, _ | ⟨z10, _ | ⟨z11, _ | ⟨zz, zr⟩⟩⟩⟩⟩⟩⟩⟩⟩⟩⟩⟩⟩
        rotate_right 1
        · simp at hvl
        · simp at hvl
        · simp at hvl
        · simp at hvl
        · simp at hvl
        · simp at hvl
        · simp at hvl
        · simp at hvl
        · simp at hvl
        · simp at hvl
        · simp at hvl
        · simp at hvl
        · simp at hvl
        · obtain rfl : z0 = (valV b) := hvp 0 (by omega)
          obtain rfl : z1 = (exV (.slice none 0 0) (.mk 1 [] b [])) := hvp 1 (by omega)
          obtain rfl : z2 = (valV a) := hvp 2 (by omega)
          obtain rfl : z3 = (exV (.slice none 0 0) (.mk 1 [] a [])) := hvp 3 (by omega)
          have hsl36 : ((.exl [(.mk 1 [] b []), (.mk 1 [] a [])]) : SP).p z4 wR := hvp 4 (by omega)
          have htr37 : ((.tree (.mk 3 [62] .zero [(.mk 1 [] b []), (.mk 1 [] a [])])) : SP).p z5 wR := hvp 5 (by omega)
          obtain rfl : z6 = (.slice (some ⟨g0, 0, none⟩) 3 3) := hvp 6 (by omega)
          obtain rfl : z7 = (.tuple #[valV M.1, .bool (decide (M.2 = 0))]) := hvp 7 (by omega)
          obtain rfl : z8 = (.tuple #[valV M.1, .bool (decide (M.2 = 0))]) := hvp 8 (by omega)
          obtain rfl : z9 = (valV M.1) := hvp 9 (by omega)
          obtain rfl : z10 = (.bool (decide (M.2 = 0))) := hvp 10 (by omega)
          have hfr : ((.fresh W3.heap.size 23 (valCs .zero)) : SP).p z11 wR := hvp 11 (by omega)
          clear hvl hvp
          simp only [putAll, Act.put, List.setIfInBounds_toArray, List.set_cons_succ, List.set_cons_zero, List.take_succ_cons, List.take_zero, List.drop_succ_cons, List.drop_zero, List.eraseIdx_cons_succ, List.eraseIdx_cons_zero]
          obtain ⟨g, rfl, hg, hrg⟩ := hfr
          have y0 : wR.cell? ⟨g, 0, none⟩ = some (.int .i64 0) := hrg.cell 0
          have y1 : wR.cell? ⟨g, 1, none⟩ = some (.int .i64 0) := hrg.cell 1
          have y2 : wR.cell? ⟨g, 2, none⟩ = some (.string (str [])) := hrg.cell 2
          have x0 : wR.frozen? ⟨g, 0, none⟩ = false := hrg.frozen 0
          have x1 : wR.frozen? ⟨g, 1, none⟩ = false := hrg.frozen 1
          have x2 : wR.frozen? ⟨g, 2, none⟩ = false := hrg.frozen 2
          have Hrg := Lib.hid hrg
          have HsR := Lib.hid hsR
          have zG := hrg.lt
          clear hsR hrg 
          go_wp2
          go_meet
          exact ⟨_, g, rfl, rfl, rfl, hg, Hrg.out.set3 _, HsR.out.set3 (fun h => by omega) _ _ _⟩
      · intro vs wR hvl hvp hsR
        rcases vs with _ | ⟨z0, _ | ⟨z1, _ | ⟨z2, _ | ⟨z3, _ | ⟨z4, _ | ⟨z5, _ | ⟨z6, _ | ⟨z7, _ | ⟨z8, _ | ⟨z9, _ | ⟨z11, _ | ⟨zz, zr⟩⟩⟩⟩⟩⟩⟩⟩⟩⟩⟩⟩
        rotate_right 1
        · simp at hvl
        · simp at hvl
        · simp at hvl
        · simp at hvl
        · simp at hvl
        · simp at hvl
        · simp at hvl
        · simp at hvl
        · simp at hvl
        · simp at hvl
        · simp at hvl
        · simp at hvl
        · obtain rfl : z0 = (valV b) := hvp 0 (by omega)
          obtain rfl : z1 = (exV (.slice none 0 0) (.mk 1 [] b [])) := hvp 1 (by omega)
          obtain rfl : z2 = (valV a) := hvp 2 (by omega)
          obtain rfl : z3 = (exV (.slice none 0 0) (.mk 1 [] a [])) := hvp 3 (by omega)
          have hsl36 : ((.exl [(.mk 1 [] b []), (.mk 1 [] a [])]) : SP).p z4 wR := hvp 4 (by omega)
          have htr37 : ((.tree (.mk 3 [62] .zero [(.mk 1 [] b []), (.mk 1 [] a [])])) : SP).p z5 wR := hvp 5 (by omega)
          obtain rfl : z6 = (.slice (some ⟨g0, 0, none⟩) 3 3) := hvp 6 (by omega)
          obtain rfl : z7 = (.tuple #[valV M.1, .bool (decide (M.2 = 0))]) := hvp 7 (by omega)
          obtain rfl : z8 = (.tuple #[valV M.1, .bool (decide (M.2 = 0))]) := hvp 8 (by omega)
          obtain rfl : z9 = (valV M.1) := hvp 9 (by omega)
          have hfr : ((.fresh W3.heap.size 23 (valCs .zero)) : SP).p z11 wR := hvp 10 (by omega)
          clear hvl hvp
          simp only [putAll, Act.put, List.setIfInBounds_toArray, List.set_cons_succ, List.set_cons_zero, List.take_succ_cons, List.take_zero, List.drop_succ_cons, List.drop_zero, List.eraseIdx_cons_succ, List.eraseIdx_cons_zero]
          obtain ⟨g, rfl, hg, hrg⟩ := hfr
          have y0 : wR.cell? ⟨g, 0, none⟩ = some (.int .i64 0) := hrg.cell 0
          have y1 : wR.cell? ⟨g, 1, none⟩ = some (.int .i64 0) := hrg.cell 1
          have y2 : wR.cell? ⟨g, 2, none⟩ = some (.string (str [])) := hrg.cell 2
          have x0 : wR.frozen? ⟨g, 0, none⟩ = false := hrg.frozen 0
          have x1 : wR.frozen? ⟨g, 1, none⟩ = false := hrg.frozen 1
          have x2 : wR.frozen? ⟨g, 2, none⟩ = false := hrg.frozen 2
          have Hrg := Lib.hid hrg
          have HsR := Lib.hid hsR
          have zG := hrg.lt
          clear hsR hrg 
          go_wp2
          go_meet
          exact ⟨_, g, rfl, rfl, rfl, hg, Hrg.out.set3 _, HsR.out.set3 (fun h => by omega) _ _ _⟩
    case rest =>
      obtain ⟨W4, g4, rfl, rfl, rfl, hg4, hr4, hS4⟩ := hcut
      have hrow := RowR.keepAll Hrow.out hS4
      have hra := Hra.out.keep hS4 trivial
      have hrb := Hrb.out.keep hS4 trivial
      have hr3 := Hr3.out.keep hS4 trivial
      have HS4 := Lib.hid (HS3.out.trans hS4)
      clear hS4 Hra Hrb Hrow a0 a1 a2 b0 b1 b2 za zb Hr3
      have Hrow := Lib.hid hrow
      have Hr3 := Lib.hid hr3
      have Hr4 := Lib.hid hr4
      clear hrow hr3 hr4
      have a0 : W4.cell? ⟨w.heap.size, 0, none⟩ = some (.int .i64 a.kind) := hra.cell 0
      have a1 : W4.cell? ⟨w.heap.size, 1, none⟩ = some (.int .i64 a.n) := hra.cell 1
      have a2 : W4.cell? ⟨w.heap.size, 2, none⟩ = some (.string (str a.s)) := hra.cell 2
      have b0 : W4.cell? ⟨w.heap.size + 1, 0, none⟩ = some (.int .i64 b.kind) := hrb.cell 0
      have b1 : W4.cell? ⟨w.heap.size + 1, 1, none⟩ = some (.int .i64 b.n) := hrb.cell 1
      have b2 : W4.cell? ⟨w.heap.size + 1, 2, none⟩ = some (.string (str b.s)) := hrb.cell 2
      have za := hra.lt
      have zb := hrb.lt
      have Hra := Lib.hid hra
      have Hrb := Lib.hid hrb
      clear hra hrb
      go_wp2
      go_upto_region 6 with (fail)
      go_cut [11, 12] from 42 to 52 (fun vA vB wx => ∃ (W5 : World) (g : Nat), W5 = wx ∧ vA = .pointer (some ⟨g, 0, none⟩) ∧ vB = .bool (decide (Q.2 = 0)) ∧ W4.heap.size ≤ g ∧ Row W5 g 23 (valCs Q.1) ∧ Same (fun _ => True) W4 W5)
      case first =>
        refine wp_region_tail_d (L := [.eq (valV a), .eq (exV (.slice none 0 0) (.mk 1 [] a [])), .eq (valV b), .eq (exV (.slice none 0 0) (.mk 1 [] b [])), .of (.exl [(.mk 1 [] a []), (.mk 1 [] b [])]), .of (.tree (.mk 3 [61] .zero [(.mk 1 [] a []), (.mk 1 [] b [])])), .eq (.slice (some ⟨g0, 0, none⟩) 3 3), .eq (.tuple #[valV Q.1, .bool (decide (Q.2 = 0))]), .eq (.tuple #[valV Q.1, .bool (decide (Q.2 = 0))]), .eq (valV Q.1), .eq (.bool (decide (Q.2 = 0))), .of (.fresh W4.heap.size 23 (valCs .zero))]) 12 10 (by omega) (by kernel_rfl) (by kernel_rfl) rfl rfl rfl rfl rfl rfl ?_ ?_ ?_
        · refine ⟨?_, ?_, ?_, ?_, ?_, ?_, ?_, ?_, ?_, ?_, ?_, ?_, trivial⟩
          · intro ac wc hs hd hz hf hw K hK
            have e0 : ac.eval (.tmp 3) = (.pointer (some ⟨w.heap.size, 0, none⟩)) := hf 3 rfl
            have m0 : wc.cell? ⟨w.heap.size, 0, none⟩ = some (.int .i64 a.kind) := hs.cell (p := ⟨w.heap.size, 0, none⟩) trivial a0
            have m1 : wc.cell? ⟨w.heap.size, 1, none⟩ = some (.int .i64 a.n) := hs.cell (p := ⟨w.heap.size, 1, none⟩) trivial a1
            have m2 : wc.cell? ⟨w.heap.size, 2, none⟩ = some (.string (str a.s)) := hs.cell (p := ⟨w.heap.size, 2, none⟩) trivial a2
            clear hd hz hf hw
            simp only [Region.wanted, if_true, Oper.wp, execOp, resolve, List.map_toArray, List.map_cons, List.map_nil, Option.map_some, Option.map_none, e0]
            go_simp
            exact hK _ _ rfl (Same.refl _ _)
          · intro ac wc hs hd hz hf hw K hK
            have e0 : ac.eval (.tmp 43) = (valV a) := hw 0 rfl
            clear hd hz hf hw
            simp only [Region.wanted, if_true, Oper.wp, execOp, resolve, List.map_toArray, List.map_cons, List.map_nil, Option.map_some, Option.map_none, e0]
            go_simp
            refine (lit_any a _).mono ?_
            rintro e wd ⟨rfl, hs2⟩
            exact hK _ _ rfl hs2
          · intro ac wc hs hd hz hf hw K hK
            have e0 : ac.eval (.tmp 4) = (.pointer (some ⟨w.heap.size + 1, 0, none⟩)) := hf 4 rfl
            have m0 : wc.cell? ⟨w.heap.size + 1, 0, none⟩ = some (.int .i64 b.kind) := hs.cell (p := ⟨w.heap.size + 1, 0, none⟩) trivial b0
            have m1 : wc.cell? ⟨w.heap.size + 1, 1, none⟩ = some (.int .i64 b.n) := hs.cell (p := ⟨w.heap.size + 1, 1, none⟩) trivial b1
            have m2 : wc.cell? ⟨w.heap.size + 1, 2, none⟩ = some (.string (str b.s)) := hs.cell (p := ⟨w.heap.size + 1, 2, none⟩) trivial b2
            clear hd hz hf hw
            simp only [Region.wanted, if_true, Oper.wp, execOp, resolve, List.map_toArray, List.map_cons, List.map_nil, Option.map_some, Option.map_none, e0]
            go_simp
            exact hK _ _ rfl (Same.refl _ _)
          · intro ac wc hs hd hz hf hw K hK
            have e0 : ac.eval (.tmp 45) = (valV b) := hw 2 rfl
            clear hd hz hf hw
            simp only [Region.wanted, if_true, Oper.wp, execOp, resolve, List.map_toArray, List.map_cons, List.map_nil, Option.map_some, Option.map_none, e0]
            go_simp
            refine (lit_any b _).mono ?_
            rintro e wd ⟨rfl, hs2⟩
            exact hK _ _ rfl hs2
          · intro ac wc hs hd hz hf hw K hK
            have e0 : ac.eval (.tmp 44) = (exV (.slice none 0 0) (.mk 1 [] a [])) := hw 1 rfl
            have e1 : ac.eval (.tmp 46) = (exV (.slice none 0 0) (.mk 1 [] b [])) := hw 3 rfl
            clear hd hz hf hw
            simp only [Region.wanted, if_true, Oper.wp, execOp, resolve, List.map_toArray, List.map_cons, List.map_nil, Option.map_some, Option.map_none, e0, e1]
            go_simp
            exact hK _ _ (ExL.fresh2 wc (ExR.leaf wc _ _ _ _) (ExR.leaf wc _ _ _ _)) ((Same.refl _ _).alloc _)
          · intro ac wc hs hd hz hf hw K hK
            have p0 : ((.exl [(.mk 1 [] a []), (.mk 1 [] b [])]) : SP).p (ac.eval (.tmp 47)) wc := hw 4 rfl
            obtain ⟨u0, e0⟩ : ∃ u, ac.eval (.tmp 47) = u := ⟨_, rfl⟩
            rw [e0] at p0
            clear hd hz hf hw
            simp only [Region.wanted, if_true, Oper.wp, execOp, resolve, List.map_toArray, List.map_cons, List.map_nil, Option.map_some, Option.map_none, e0]
            go_simp
            refine (op_v _ [61] _ _ p0).mono ?_
            rintro e wd ⟨vt, rfl, ht9, hs9⟩
            exact hK _ _ ht9 hs9
          · intro ac wc hs hd hz hf hw K hK
            have e0 : ac.eval (.tmp 2) = (.slice (some ⟨g0, 0, none⟩) 3 3) := hf 2 rfl
            clear hd hz hf hw
            simp only [Region.wanted, if_true, Oper.wp, execOp, resolve, List.map_toArray, List.map_cons, List.map_nil, Option.map_some, Option.map_none, e0]
            go_simp
            exact hK _ _ rfl (Same.refl _ _)
          · intro ac wc hs hd hz hf hw K hK
            have p0 : ((.tree (.mk 3 [61] .zero [(.mk 1 [] a []), (.mk 1 [] b [])])) : SP).p (ac.eval (.tmp 48)) wc := hw 5 rfl
            obtain ⟨u0, e0⟩ : ∃ u, ac.eval (.tmp 48) = u := ⟨_, rfl⟩
            rw [e0] at p0
            have e1 : ac.eval (.tmp 49) = (.slice (some ⟨g0, 0, none⟩) 3 3) := hw 6 rfl
            clear hd hz hf hw
            simp only [Region.wanted, if_true, Oper.wp, execOp, resolve, List.map_toArray, List.map_cons, List.map_nil, Option.map_some, Option.map_none, e0, e1]
            go_simp
            refine (EvQ.out _ _ _ p0 (RowR.keepAll Hrow.out hs)).mono ?_
            rintro e wd ⟨rfl, hs2⟩
            exact hK _ _ rfl hs2
          · intro ac wc hs hd hz hf hw K hK
            have e0 : ac.eval (.tmp 50) = (.tuple #[valV Q.1, .bool (decide (Q.2 = 0))]) := hw 7 rfl
            clear hd hz hf hw
            simp only [Region.wanted, if_true, Oper.wp, execOp, resolve, List.map_toArray, List.map_cons, List.map_nil, Option.map_some, Option.map_none, e0]
            go_simp
            exact hK _ _ rfl (Same.refl _ _)
          · intro ac wc hs hd hz hf hw K hK
            have e0 : ac.eval (.tmp 42) = (.tuple #[valV Q.1, .bool (decide (Q.2 = 0))]) := hw 8 rfl
            clear hd hz hf hw
            simp only [Region.wanted, if_true, Oper.wp, execOp, resolve, List.map_toArray, List.map_cons, List.map_nil, Option.map_some, Option.map_none, e0]
            go_simp
            exact hK _ _ rfl (Same.refl _ _)
          · intro ac wc hs hd hz hf hw K hK
            have e0 : ac.eval (.tmp 42) = (.tuple #[valV Q.1, .bool (decide (Q.2 = 0))]) := hw 8 rfl
            clear hd hz hf hw
            simp only [Region.wanted, if_true, Oper.wp, execOp, resolve, List.map_toArray, List.map_cons, List.map_nil, Option.map_some, Option.map_none, e0]
            go_simp
            exact hK _ _ rfl (Same.refl _ _)
          · intro ac wc hs hd hz hf hw K hK
            clear hd hz hf hw
            simp only [Region.wanted, if_true, Oper.wp, execOp, resolve, List.map_toArray, List.map_cons, List.map_nil, Option.map_some, Option.map_none]
            go_simp
            exact hK _ _ ⟨_, rfl, hs.size, Row.new wc _ (valCs .zero)⟩ ((Same.refl _ _).alloc _)
        · intro vs wR hvl hvp hsR
          rcases vs with _ | ⟨z0, _ | ⟨z1, _ | ⟨z2, _ | ⟨z3, _ | ⟨z4, _ | ⟨z5, _ | ⟨z6, _ | ⟨z7, _ | ⟨z8, _ | ⟨z9, _ | ⟨z10, _ | ⟨z11, _ | ⟨zz, zr⟩⟩⟩⟩⟩⟩⟩⟩⟩⟩⟩⟩⟩
          rotate_right 1
          · simp at hvl
          · simp at hvl
          · simp at hvl
          · simp at hvl
          · simp at hvl
          · simp at hvl
          · simp at hvl
          · simp at hvl
          · simp at hvl
          · simp at hvl
          · simp at hvl
          · simp at hvl
          · simp at hvl
          · obtain rfl : z0 = (valV a) := hvp 0 (by omega)
            obtain rfl : z1 = (exV (.slice none 0 0) (.mk 1 [] a [])) := hvp 1 (by omega)
            obtain rfl : z2 = (valV b) := hvp 2 (by omega)
            obtain rfl : z3 = (exV (.slice none 0 0) (.mk 1 [] b [])) := hvp 3 (by omega)
            have hsl47 : ((.exl [(.mk 1 [] a []), (.mk 1 [] b [])]) : SP).p z4 wR := hvp 4 (by omega)
            have htr48 : ((.tree (.mk 3 [61] .zero [(.mk 1 [] a []), (.mk 1 [] b [])])) : SP).p z5 wR := hvp 5 (by omega)
            obtain rfl : z6 = (.slice (some ⟨g0, 0, none⟩) 3 3) := hvp 6 (by omega)
            obtain rfl : z7 = (.tuple #[valV Q.1, .bool (decide (Q.2 = 0))]) := hvp 7 (by omega)
            obtain rfl : z8 = (.tuple #[valV Q.1, .bool (decide (Q.2 = 0))]) := hvp 8 (by omega)
            obtain rfl : z9 = (valV Q.1) := hvp 9 (by omega)
            obtain rfl : z10 = (.bool (decide (Q.2 = 0))) := hvp 10 (by omega)
            have hfr : ((.fresh W4.heap.size 23 (valCs .zero)) : SP).p z11 wR := hvp 11 (by omega)
            clear hvl hvp
            simp only [putAll, Act.put, List.setIfInBounds_toArray, List.set_cons_succ, List.set_cons_zero, List.take_succ_cons, List.take_zero, List.drop_succ_cons, List.drop_zero, List.eraseIdx_cons_succ, List.eraseIdx_cons_zero]
            obtain ⟨g, rfl, hg, hrg⟩ := hfr
            have y0 : wR.cell? ⟨g, 0, none⟩ = some (.int .i64 0) := hrg.cell 0
            have y1 : wR.cell? ⟨g, 1, none⟩ = some (.int .i64 0) := hrg.cell 1
            have y2 : wR.cell? ⟨g, 2, none⟩ = some (.string (str [])) := hrg.cell 2
            have x0 : wR.frozen? ⟨g, 0, none⟩ = false := hrg.frozen 0
            have x1 : wR.frozen? ⟨g, 1, none⟩ = false := hrg.frozen 1
            have x2 : wR.frozen? ⟨g, 2, none⟩ = false := hrg.frozen 2
            have Hrg := Lib.hid hrg
            have HsR := Lib.hid hsR
            have zG := hrg.lt
            clear hsR hrg 
            go_wp2
            go_meet
            exact ⟨_, g, rfl, rfl, rfl, hg, Hrg.out.set3 _, HsR.out.set3 (fun h => by omega) _ _ _⟩
        · intro vs wR hvl hvp hsR
          rcases vs with _ | ⟨z0, _ | ⟨z1, _ | ⟨z2, _ | ⟨z3, _ | ⟨z4, _ | ⟨z5, _ | ⟨z6, _ | ⟨z7, _ | ⟨z8, _ | ⟨z9, _ | ⟨z11, _ | ⟨zz, zr⟩⟩⟩⟩⟩⟩⟩⟩⟩⟩⟩⟩
          rotate_right 1
          · simp at hvl
          · simp at hvl
          · simp at hvl
          · simp at hvl
          · simp at hvl
          · simp at hvl
          · simp at hvl
          · simp at hvl
          · simp at hvl
          · simp at hvl
          · simp at hvl
          · simp at hvl
          · obtain rfl : z0 = (valV a) := hvp 0 (by omega)
            obtain rfl : z1 = (exV (.slice none 0 0) (.mk 1 [] a [])) := hvp 1 (by omega)
            obtain rfl : z2 = (valV b) := hvp 2 (by omega)
            obtain rfl : z3 = (exV (.slice none 0 0) (.mk 1 [] b [])) := hvp 3 (by omega)
            have hsl47 : ((.exl [(.mk 1 [] a []), (.mk 1 [] b [])]) : SP).p z4 wR := hvp 4 (by omega)
            have htr48 : ((.tree (.mk 3 [61] .zero [(.mk 1 [] a []), (.mk 1 [] b [])])) : SP).p z5 wR := hvp 5 (by omega)
            obtain rfl : z6 = (.slice (some ⟨g0, 0, none⟩) 3 3) := hvp 6 (by omega)
            obtain rfl : z7 = (.tuple #[valV Q.1, .bool (decide (Q.2 = 0))]) := hvp 7 (by omega)
            obtain rfl : z8 = (.tuple #[valV Q.1, .bool (decide (Q.2 = 0))]) := hvp 8 (by omega)
            obtain rfl : z9 = (valV Q.1) := hvp 9 (by omega)
            have hfr : ((.fresh W4.heap.size 23 (valCs .zero)) : SP).p z11 wR := hvp 10 (by omega)
            clear hvl hvp
            simp only [putAll, Act.put, List.setIfInBounds_toArray, List.set_cons_succ, List.set_cons_zero, List.take_succ_cons, List.take_zero, List.drop_succ_cons, List.drop_zero, List.eraseIdx_cons_succ, List.eraseIdx_cons_zero]
            obtain ⟨g, rfl, hg, hrg⟩ := hfr
            have y0 : wR.cell? ⟨g, 0, none⟩ = some (.int .i64 0) := hrg.cell 0
            have y1 : wR.cell? ⟨g, 1, none⟩ = some (.int .i64 0) := hrg.cell 1
            have y2 : wR.cell? ⟨g, 2, none⟩ = some (.string (str [])) := hrg.cell 2
            have x0 : wR.frozen? ⟨g, 0, none⟩ = false := hrg.frozen 0
            have x1 : wR.frozen? ⟨g, 1, none⟩ = false := hrg.frozen 1
            have x2 : wR.frozen? ⟨g, 2, none⟩ = false := hrg.frozen 2
            have Hrg := Lib.hid hrg
            have HsR := Lib.hid hsR
            have zG := hrg.lt
            clear hsR hrg 
            go_wp2
            go_meet
            exact ⟨_, g, rfl, rfl, rfl, hg, Hrg.out.set3 _, HsR.out.set3 (fun h => by omega) _ _ _⟩
      case rest =>
        obtain ⟨W5, g5, rfl, rfl, rfl, hg5, hr5, hS5⟩ := hcut
        have hrow := RowR.keepAll Hrow.out hS5
        have hra := Hra.out.keep hS5 trivial
        have hrb := Hrb.out.keep hS5 trivial
        have hr3 := Hr3.out.keep hS5 trivial
        have hr4 := Hr4.out.keep hS5 trivial
        have HS5 := Lib.hid (HS4.out.trans hS5)
        clear hS5 Hra Hrb Hrow a0 a1 a2 b0 b1 b2 za zb Hr3 Hr4
        have Hrow := Lib.hid hrow
        have Hr3 := Lib.hid hr3
        have Hr4 := Lib.hid hr4
        have Hr5 := Lib.hid hr5
        clear hrow hr3 hr4 hr5
        have a0 : W5.cell? ⟨w.heap.size, 0, none⟩ = some (.int .i64 a.kind) := hra.cell 0
        have a1 : W5.cell? ⟨w.heap.size, 1, none⟩ = some (.int .i64 a.n) := hra.cell 1
        have a2 : W5.cell? ⟨w.heap.size, 2, none⟩ = some (.string (str a.s)) := hra.cell 2
        have b0 : W5.cell? ⟨w.heap.size + 1, 0, none⟩ = some (.int .i64 b.kind) := hrb.cell 0
        have b1 : W5.cell? ⟨w.heap.size + 1, 1, none⟩ = some (.int .i64 b.n) := hrb.cell 1
        have b2 : W5.cell? ⟨w.heap.size + 1, 2, none⟩ = some (.string (str b.s)) := hrb.cell 2
        have za := hra.lt
        have zb := hrb.lt
        have Hra := Lib.hid hra
        have Hrb := Lib.hid hrb
        clear hra hrb
        go_wp2
        go_upto_region 7 with (fail)
        go_cut [13, 14] from 53 to 63 (fun vA vB wx => ∃ (W6 : World) (g : Nat), W6 = wx ∧ vA = .pointer (some ⟨g, 0, none⟩) ∧ vB = .bool (decide (O.2 = 0)) ∧ W5.heap.size ≤ g ∧ Row W6 g 23 (valCs O.1) ∧ Same (fun _ => True) W5 W6)
        case first =>
          refine wp_region_tail_d (L := [.eq (valV a), .eq (exV (.slice none 0 0) (.mk 1 [] a [])), .eq (valV b), .eq (exV (.slice none 0 0) (.mk 1 [] b [])), .of (.exl [(.mk 1 [] a []), (.mk 1 [] b [])]), .of (.tree (.mk 3 [60, 62] .zero [(.mk 1 [] a []), (.mk 1 [] b [])])), .eq (.slice (some ⟨g0, 0, none⟩) 3 3), .eq (.tuple #[valV O.1, .bool (decide (O.2 = 0))]), .eq (.tuple #[valV O.1, .bool (decide (O.2 = 0))]), .eq (valV O.1), .eq (.bool (decide (O.2 = 0))), .of (.fresh W5.heap.size 23 (valCs .zero))]) 12 10 (by omega) (by kernel_rfl) (by kernel_rfl) rfl rfl rfl rfl rfl rfl ?_ ?_ ?_
          · refine ⟨?_, ?_, ?_, ?_, ?_, ?_, ?_, ?_, ?_, ?_, ?_, ?_, trivial⟩
            · intro ac wc hs hd hz hf hw K hK
              have e0 : ac.eval (.tmp 3) = (.pointer (some ⟨w.heap.size, 0, none⟩)) := hf 3 rfl
              have m0 : wc.cell? ⟨w.heap.size, 0, none⟩ = some (.int .i64 a.kind) := hs.cell (p := ⟨w.heap.size, 0, none⟩) trivial a0
              have m1 : wc.cell? ⟨w.heap.size, 1, none⟩ = some (.int .i64 a.n) := hs.cell (p := ⟨w.heap.size, 1, none⟩) trivial a1
              have m2 : wc.cell? ⟨w.heap.size, 2, none⟩ = some (.string (str a.s)) := hs.cell (p := ⟨w.heap.size, 2, none⟩) trivial a2
              clear hd hz hf hw
              simp only [Region.wanted, if_true, Oper.wp, execOp, resolve, List.map_toArray, List.map_cons, List.map_nil, Option.map_some, Option.map_none, e0]
              go_simp
              exact hK _ _ rfl (Same.refl _ _)
            · intro ac wc hs hd hz hf hw K hK
              have e0 : ac.eval (.tmp 54) = (valV a) := hw 0 rfl
              clear hd hz hf hw
              simp only [Region.wanted, if_true, Oper.wp, execOp, resolve, List.map_toArray, List.map_cons, List.map_nil, Option.map_some, Option.map_none, e0]
              go_simp
              refine (lit_any a _).mono ?_
              rintro e wd ⟨rfl, hs2⟩
              exact hK _ _ rfl hs2
            · intro ac wc hs hd hz hf hw K hK
              have e0 : ac.eval (.tmp 4) = (.pointer (some ⟨w.heap.size + 1, 0, none⟩)) := hf 4 rfl
              have m0 : wc.cell? ⟨w.heap.size + 1, 0, none⟩ = some (.int .i64 b.kind) := hs.cell (p := ⟨w.heap.size + 1, 0, none⟩) trivial b0
              have m1 : wc.cell? ⟨w.heap.size + 1, 1, none⟩ = some (.int .i64 b.n) := hs.cell (p := ⟨w.heap.size + 1, 1, none⟩) trivial b1
              have m2 : wc.cell? ⟨w.heap.size + 1, 2, none⟩ = some (.string (str b.s)) := hs.cell (p := ⟨w.heap.size + 1, 2, none⟩) trivial b2
              clear hd hz hf hw
              simp only [Region.wanted, if_true, Oper.wp, execOp, resolve, List.map_toArray, List.map_cons, List.map_nil, Option.map_some, Option.map_none, e0]
              go_simp
              exact hK _ _ rfl (Same.refl _ _)
            · intro ac wc hs hd hz hf hw K hK
              have e0 : ac.eval (.tmp 56) = (valV b) := hw 2 rfl
              clear hd hz hf hw
              simp only [Region.wanted, if_true, Oper.wp, execOp, resolve, List.map_toArray, List.map_cons, List.map_nil, Option.map_some, Option.map_none, e0]
              go_simp
              refine (lit_any b _).mono ?_
              rintro e wd ⟨rfl, hs2⟩
              exact hK _ _ rfl hs2
            · intro ac wc hs hd hz hf hw K hK
              have e0 : ac.eval (.tmp 55) = (exV (.slice none 0 0) (.mk 1 [] a [])) := hw 1 rfl
              have e1 : ac.eval (.tmp 57) = (exV (.slice none 0 0) (.mk 1 [] b [])) := hw 3 rfl
              clear hd hz hf hw
              simp only [Region.wanted, if_true, Oper.wp, execOp, resolve, List.map_toArray, List.map_cons, List.map_nil, Option.map_some, Option.map_none, e0, e1]
              go_simp
              exact hK _ _ (ExL.fresh2 wc (ExR.leaf wc _ _ _ _) (ExR.leaf wc _ _ _ _)) ((Same.refl _ _).alloc _)
            · intro ac wc hs hd hz hf hw K hK
              have p0 : ((.exl [(.mk 1 [] a []), (.mk 1 [] b [])]) : SP).p (ac.eval (.tmp 58)) wc := hw 4 rfl
              obtain ⟨u0, e0⟩ : ∃ u, ac.eval (.tmp 58) = u := ⟨_, rfl⟩
              rw [e0] at p0
              clear hd hz hf hw
              simp only [Region.wanted, if_true, Oper.wp, execOp, resolve, List.map_toArray, List.map_cons, List.map_nil, Option.map_some, Option.map_none, e0]
              go_simp
              refine (op_v _ [60, 62] _ _ p0).mono ?_
              rintro e wd ⟨vt, rfl, ht9, hs9⟩
              exact hK _ _ ht9 hs9
            · intro ac wc hs hd hz hf hw K hK
              have e0 : ac.eval (.tmp 2) = (.slice (some ⟨g0, 0, none⟩) 3 3) := hf 2 rfl
              clear hd hz hf hw
              simp only [Region.wanted, if_true, Oper.wp, execOp, resolve, List.map_toArray, List.map_cons, List.map_nil, Option.map_some, Option.map_none, e0]
              go_simp
              exact hK _ _ rfl (Same.refl _ _)
            · intro ac wc hs hd hz hf hw K hK
              have p0 : ((.tree (.mk 3 [60, 62] .zero [(.mk 1 [] a []), (.mk 1 [] b [])])) : SP).p (ac.eval (.tmp 59)) wc := hw 5 rfl
              obtain ⟨u0, e0⟩ : ∃ u, ac.eval (.tmp 59) = u := ⟨_, rfl⟩
              rw [e0] at p0
              have e1 : ac.eval (.tmp 60) = (.slice (some ⟨g0, 0, none⟩) 3 3) := hw 6 rfl
              clear hd hz hf hw
              simp only [Region.wanted, if_true, Oper.wp, execOp, resolve, List.map_toArray, List.map_cons, List.map_nil, Option.map_some, Option.map_none, e0, e1]
              go_simp
              refine (EvO.out _ _ _ p0 (RowR.keepAll Hrow.out hs)).mono ?_
              rintro e wd ⟨rfl, hs2⟩
              exact hK _ _ rfl hs2
            · intro ac wc hs hd hz hf hw K hK
              have e0 : ac.eval (.tmp 61) = (.tuple #[valV O.1, .bool (decide (O.2 = 0))]) := hw 7 rfl
              clear hd hz hf hw
              simp only [Region.wanted, if_true, Oper.wp, execOp, resolve, List.map_toArray, List.map_cons, List.map_nil, Option.map_some, Option.map_none, e0]
              go_simp
              exact hK _ _ rfl (Same.refl _ _)
            · intro ac wc hs hd hz hf hw K hK
              have e0 : ac.eval (.tmp 53) = (.tuple #[valV O.1, .bool (decide (O.2 = 0))]) := hw 8 rfl
              clear hd hz hf hw
              simp only [Region.wanted, if_true, Oper.wp, execOp, resolve, List.map_toArray, List.map_cons, List.map_nil, Option.map_some, Option.map_none, e0]
              go_simp
              exact hK _ _ rfl (Same.refl _ _)
            · intro ac wc hs hd hz hf hw K hK
              have e0 : ac.eval (.tmp 53) = (.tuple #[valV O.1, .bool (decide (O.2 = 0))]) := hw 8 rfl
              clear hd hz hf hw
              simp only [Region.wanted, if_true, Oper.wp, execOp, resolve, List.map_toArray, List.map_cons, List.map_nil, Option.map_some, Option.map_none, e0]
              go_simp
              exact hK _ _ rfl (Same.refl _ _)
            · intro ac wc hs hd hz hf hw K hK
              clear hd hz hf hw
              simp only [Region.wanted, if_true, Oper.wp, execOp, resolve, List.map_toArray, List.map_cons, List.map_nil, Option.map_some, Option.map_none]
              go_simp
              exact hK _ _ ⟨_, rfl, hs.size, Row.new wc _ (valCs .zero)⟩ ((Same.refl _ _).alloc _)
          · intro vs wR hvl hvp hsR
            rcases vs with _ | ⟨z0, _ | ⟨z1, _ | ⟨z2, _ | ⟨z3, _ | ⟨z4, _ | ⟨z5, _ | ⟨z6, _ | ⟨z7, _ | ⟨z8, _ | ⟨z9, _ | ⟨z10, _ | ⟨z11, _ | ⟨zz, zr⟩⟩⟩⟩⟩⟩⟩⟩⟩⟩⟩⟩⟩
            rotate_right 1
            · simp at hvl
            · simp at hvl
            · simp at hvl
            · simp at hvl
            · simp at hvl
            · simp at hvl
            · simp at hvl
            · simp at hvl
            · simp at hvl
            · simp at hvl
            · simp at hvl
            · simp at hvl
            · simp at hvl
            · obtain rfl : z0 = (valV a) := hvp 0 (by omega)
              obtain rfl : z1 = (exV (.slice none 0 0) (.mk 1 [] a [])) := hvp 1 (by omega)
              obtain rfl : z2 = (valV b) := hvp 2 (by omega)
              obtain rfl : z3 = (exV (.slice none 0 0) (.mk 1 [] b [])) := hvp 3 (by omega)
              have hsl58 : ((.exl [(.mk 1 [] a []), (.mk 1 [] b [])]) : SP).p z4 wR := hvp 4 (by omega)
              have htr59 : ((.tree (.mk 3 [60, 62] .zero [(.mk 1 [] a []), (.mk 1 [] b [])])) : SP).p z5 wR := hvp 5 (by omega)
              obtain rfl : z6 = (.slice (some ⟨g0, 0, none⟩) 3 3) := hvp 6 (by omega)
              obtain rfl : z7 = (.tuple #[valV O.1, .bool (decide (O.2 = 0))]) := hvp 7 (by omega)
              obtain rfl : z8 = (.tuple #[valV O.1, .bool (decide (O.2 = 0))]) := hvp 8 (by omega)
              obtain rfl : z9 = (valV O.1) := hvp 9 (by omega)
              obtain rfl : z10 = (.bool (decide (O.2 = 0))) := hvp 10 (by omega)
              have hfr : ((.fresh W5.heap.size 23 (valCs .zero)) : SP).p z11 wR := hvp 11 (by omega)
              clear hvl hvp
              simp only [putAll, Act.put, List.setIfInBounds_toArray, List.set_cons_succ, List.set_cons_zero, List.take_succ_cons, List.take_zero, List.drop_succ_cons, List.drop_zero, List.eraseIdx_cons_succ, List.eraseIdx_cons_zero]
              obtain ⟨g, rfl, hg, hrg⟩ := hfr
              have y0 : wR.cell? ⟨g, 0, none⟩ = some (.int .i64 0) := hrg.cell 0
              have y1 : wR.cell? ⟨g, 1, none⟩ = some (.int .i64 0) := hrg.cell 1
              have y2 : wR.cell? ⟨g, 2, none⟩ = some (.string (str [])) := hrg.cell 2
              have x0 : wR.frozen? ⟨g, 0, none⟩ = false := hrg.frozen 0
              have x1 : wR.frozen? ⟨g, 1, none⟩ = false := hrg.frozen 1
              have x2 : wR.frozen? ⟨g, 2, none⟩ = false := hrg.frozen 2
              have Hrg := Lib.hid hrg
              have HsR := Lib.hid hsR
              have zG := hrg.lt
              clear hsR hrg 
              go_wp2
              go_meet
              exact ⟨_, g, rfl, rfl, rfl, hg, Hrg.out.set3 _, HsR.out.set3 (fun h => by omega) _ _ _⟩
          · intro vs wR hvl hvp hsR
            rcases vs with _ | ⟨z0, _ | ⟨z1, _ | ⟨z2, _ | ⟨z3, _ | ⟨z4, _ | ⟨z5, _ | ⟨z6, _ | ⟨z7, _ | ⟨z8, _ | ⟨z9, _ | ⟨z11, _ | ⟨zz, zr⟩⟩⟩⟩⟩⟩⟩⟩⟩⟩⟩⟩
            rotate_right 1
            · simp at hvl
            · simp at hvl
            · simp at hvl
            · simp at hvl
            · simp at hvl
            · simp at hvl
            · simp at hvl
            · simp at hvl
            · simp at hvl
            · simp at hvl
            · simp at hvl
            · simp at hvl
            · obtain rfl : z0 = (valV a) := hvp 0 (by omega)
              obtain rfl : z1 = (exV (.slice none 0 0) (.mk 1 [] a [])) := hvp 1 (by omega)
              obtain rfl : z2 = (valV b) := hvp 2 (by omega)
              obtain rfl : z3 = (exV (.slice none 0 0) (.mk 1 [] b [])) := hvp 3 (by omega)
              have hsl58 : ((.exl [(.mk 1 [] a []), (.mk 1 [] b [])]) : SP).p z4 wR := hvp 4 (by omega)
              have htr59 : ((.tree (.mk 3 [60, 62] .zero [(.mk 1 [] a []), (.mk 1 [] b [])])) : SP).p z5 wR := hvp 5 (by omega)
              obtain rfl : z6 = (.slice (some ⟨g0, 0, none⟩) 3 3) := hvp 6 (by omega)
              obtain rfl : z7 = (.tuple #[valV O.1, .bool (decide (O.2 = 0))]) := hvp 7 (by omega)
              obtain rfl : z8 = (.tuple #[valV O.1, .bool (decide (O.2 = 0))]) := hvp 8 (by omega)
              obtain rfl : z9 = (valV O.1) := hvp 9 (by omega)
              have hfr : ((.fresh W5.heap.size 23 (valCs .zero)) : SP).p z11 wR := hvp 10 (by omega)
              clear hvl hvp
              simp only [putAll, Act.put, List.setIfInBounds_toArray, List.set_cons_succ, List.set_cons_zero, List.take_succ_cons, List.take_zero, List.drop_succ_cons, List.drop_zero, List.eraseIdx_cons_succ, List.eraseIdx_cons_zero]
              obtain ⟨g, rfl, hg, hrg⟩ := hfr
              have y0 : wR.cell? ⟨g, 0, none⟩ = some (.int .i64 0) := hrg.cell 0
              have y1 : wR.cell? ⟨g, 1, none⟩ = some (.int .i64 0) := hrg.cell 1
              have y2 : wR.cell? ⟨g, 2, none⟩ = some (.string (str [])) := hrg.cell 2
              have x0 : wR.frozen? ⟨g, 0, none⟩ = false := hrg.frozen 0
              have x1 : wR.frozen? ⟨g, 1, none⟩ = false := hrg.frozen 1
              have x2 : wR.frozen? ⟨g, 2, none⟩ = false := hrg.frozen 2
              have Hrg := Lib.hid hrg
              have HsR := Lib.hid hsR
              have zG := hrg.lt
              clear hsR hrg 
              go_wp2
              go_meet
              exact ⟨_, g, rfl, rfl, rfl, hg, Hrg.out.set3 _, HsR.out.set3 (fun h => by omega) _ _ _⟩
        case rest =>
          obtain ⟨W6, g6, rfl, rfl, rfl, hg6, hr6, hS6⟩ := hcut
          have hrow := RowR.keepAll Hrow.out hS6
          have hra := Hra.out.keep hS6 trivial
          have hrb := Hrb.out.keep hS6 trivial
          have hr3 := Hr3.out.keep hS6 trivial
          have hr4 := Hr4.out.keep hS6 trivial
          have hr5 := Hr5.out.keep hS6 trivial
          have HS6 := Lib.hid (HS5.out.trans hS6)
          clear hS6 Hra Hrb Hrow a0 a1 a2 b0 b1 b2 za zb Hr3 Hr4 Hr5
          have Hrow := Lib.hid hrow
          have Hr3 := Lib.hid hr3
          have Hr4 := Lib.hid hr4
          have Hr5 := Lib.hid hr5
          have Hr6 := Lib.hid hr6
          clear hrow hr3 hr4 hr5 hr6
          have a0 : W6.cell? ⟨w.heap.size, 0, none⟩ = some (.int .i64 a.kind) := hra.cell 0
          have a1 : W6.cell? ⟨w.heap.size, 1, none⟩ = some (.int .i64 a.n) := hra.cell 1
          have a2 : W6.cell? ⟨w.heap.size, 2, none⟩ = some (.string (str a.s)) := hra.cell 2
          have b0 : W6.cell? ⟨w.heap.size + 1, 0, none⟩ = some (.int .i64 b.kind) := hrb.cell 0
          have b1 : W6.cell? ⟨w.heap.size + 1, 1, none⟩ = some (.int .i64 b.n) := hrb.cell 1
          have b2 : W6.cell? ⟨w.heap.size + 1, 2, none⟩ = some (.string (str b.s)) := hrb.cell 2
          have za := hra.lt
          have zb := hrb.lt
          have Hra := Lib.hid hra
          have Hrb := Lib.hid hrb
          clear hra hrb
          go_wp2
          go_upto_region 8 with (fail)
          go_cut [15, 16] from 64 to 74 (fun vA vB wx => ∃ (W7 : World) (g : Nat), W7 = wx ∧ vA = .pointer (some ⟨g, 0, none⟩) ∧ vB = .bool (decide (Y.2 = 0)) ∧ W6.heap.size ≤ g ∧ Row W7 g 23 (valCs Y.1) ∧ Same (fun _ => True) W6 W7)
          case first =>
            refine wp_region_tail_d (L := [.eq (valV a), .eq (exV (.slice none 0 0) (.mk 1 [] a [])), .eq (valV b), .eq (exV (.slice none 0 0) (.mk 1 [] b [])), .of (.exl [(.mk 1 [] a []), (.mk 1 [] b [])]), .of (.tree (.mk 3 [60, 61] .zero [(.mk 1 [] a []), (.mk 1 [] b [])])), .eq (.slice (some ⟨g0, 0, none⟩) 3 3), .eq (.tuple #[valV Y.1, .bool (decide (Y.2 = 0))]), .eq (.tuple #[valV Y.1, .bool (decide (Y.2 = 0))]), .eq (valV Y.1), .eq (.bool (decide (Y.2 = 0))), .of (.fresh W6.heap.size 23 (valCs .zero))]) 12 10 (by omega) (by kernel_rfl) (by kernel_rfl) rfl rfl rfl rfl rfl rfl ?_ ?_ ?_
            · refine ⟨?_, ?_, ?_, ?_, ?_, ?_, ?_, ?_, ?_, ?_, ?_, ?_, trivial⟩
              · intro ac wc hs hd hz hf hw K hK
                have e0 : ac.eval (.tmp 3) = (.pointer (some ⟨w.heap.size, 0, none⟩)) := hf 3 rfl
                have m0 : wc.cell? ⟨w.heap.size, 0, none⟩ = some (.int .i64 a.kind) := hs.cell (p := ⟨w.heap.size, 0, none⟩) trivial a0
                have m1 : wc.cell? ⟨w.heap.size, 1, none⟩ = some (.int .i64 a.n) := hs.cell (p := ⟨w.heap.size, 1, none⟩) trivial a1
                have m2 : wc.cell? ⟨w.heap.size, 2, none⟩ = some (.string (str a.s)) := hs.cell (p := ⟨w.heap.size, 2, none⟩) trivial a2
                clear hd hz hf hw
                simp only [Region.wanted, if_true, Oper.wp, execOp, resolve, List.map_toArray, List.map_cons, List.map_nil, Option.map_some, Option.map_none, e0]
                go_simp
                exact hK _ _ rfl (Same.refl _ _)
              · intro ac wc hs hd hz hf hw K hK
                have e0 : ac.eval (.tmp 65) = (valV a) := hw 0 rfl
                clear hd hz hf hw
                simp only [Region.wanted, if_true, Oper.wp, execOp, resolve, List.map_toArray, List.map_cons, List.map_nil, Option.map_some, Option.map_none, e0]
                go_simp
                refine (lit_any a _).mono ?_
                rintro e wd ⟨rfl, hs2⟩
                exact hK _ _ rfl hs2
              · intro ac wc hs hd hz hf hw K hK
                have e0 : ac.eval (.tmp 4) = (.pointer (some ⟨w.heap.size + 1, 0, none⟩)) := hf 4 rfl
                have m0 : wc.cell? ⟨w.heap.size + 1, 0, none⟩ = some (.int .i64 b.kind) := hs.cell (p := ⟨w.heap.size + 1, 0, none⟩) trivial b0
                have m1 : wc.cell? ⟨w.heap.size + 1, 1, none⟩ = some (.int .i64 b.n) := hs.cell (p := ⟨w.heap.size + 1, 1, none⟩) trivial b1
                have m2 : wc.cell? ⟨w.heap.size + 1, 2, none⟩ = some (.string (str b.s)) := hs.cell (p := ⟨w.heap.size + 1, 2, none⟩) trivial b2
                clear hd hz hf hw
                simp only [Region.wanted, if_true, Oper.wp, execOp, resolve, List.map_toArray, List.map_cons, List.map_nil, Option.map_some, Option.map_none, e0]
                go_simp
                exact hK _ _ rfl (Same.refl _ _)
              · intro ac wc hs hd hz hf hw K hK
                have e0 : ac.eval (.tmp 67) = (valV b) := hw 2 rfl
                clear hd hz hf hw
                simp only [Region.wanted, if_true, Oper.wp, execOp, resolve, List.map_toArray, List.map_cons, List.map_nil, Option.map_some, Option.map_none, e0]
                go_simp
                refine (lit_any b _).mono ?_
                rintro e wd ⟨rfl, hs2⟩
                exact hK _ _ rfl hs2
              · intro ac wc hs hd hz hf hw K hK
                have e0 : ac.eval (.tmp 66) = (exV (.slice none 0 0) (.mk 1 [] a [])) := hw 1 rfl
                have e1 : ac.eval (.tmp 68) = (exV (.slice none 0 0) (.mk 1 [] b [])) := hw 3 rfl
                clear hd hz hf hw
                simp only [Region.wanted, if_true, Oper.wp, execOp, resolve, List.map_toArray, List.map_cons, List.map_nil, Option.map_some, Option.map_none, e0, e1]
                go_simp
                exact hK _ _ (ExL.fresh2 wc (ExR.leaf wc _ _ _ _) (ExR.leaf wc _ _ _ _)) ((Same.refl _ _).alloc _)
              · intro ac wc hs hd hz hf hw K hK
                have p0 : ((.exl [(.mk 1 [] a []), (.mk 1 [] b [])]) : SP).p (ac.eval (.tmp 69)) wc := hw 4 rfl
                obtain ⟨u0, e0⟩ : ∃ u, ac.eval (.tmp 69) = u := ⟨_, rfl⟩
                rw [e0] at p0
                clear hd hz hf hw
                simp only [Region.wanted, if_true, Oper.wp, execOp, resolve, List.map_toArray, List.map_cons, List.map_nil, Option.map_some, Option.map_none, e0]
                go_simp
                refine (op_v _ [60, 61] _ _ p0).mono ?_
                rintro e wd ⟨vt, rfl, ht9, hs9⟩
                exact hK _ _ ht9 hs9
              · intro ac wc hs hd hz hf hw K hK
                have e0 : ac.eval (.tmp 2) = (.slice (some ⟨g0, 0, none⟩) 3 3) := hf 2 rfl
                clear hd hz hf hw
                simp only [Region.wanted, if_true, Oper.wp, execOp, resolve, List.map_toArray, List.map_cons, List.map_nil, Option.map_some, Option.map_none, e0]
                go_simp
                exact hK _ _ rfl (Same.refl _ _)
              · intro ac wc hs hd hz hf hw K hK
                have p0 : ((.tree (.mk 3 [60, 61] .zero [(.mk 1 [] a []), (.mk 1 [] b [])])) : SP).p (ac.eval (.tmp 70)) wc := hw 5 rfl
                obtain ⟨u0, e0⟩ : ∃ u, ac.eval (.tmp 70) = u := ⟨_, rfl⟩
                rw [e0] at p0
                have e1 : ac.eval (.tmp 71) = (.slice (some ⟨g0, 0, none⟩) 3 3) := hw 6 rfl
                clear hd hz hf hw
                simp only [Region.wanted, if_true, Oper.wp, execOp, resolve, List.map_toArray, List.map_cons, List.map_nil, Option.map_some, Option.map_none, e0, e1]
                go_simp
                refine (EvY.out _ _ _ p0 (RowR.keepAll Hrow.out hs)).mono ?_
                rintro e wd ⟨rfl, hs2⟩
                exact hK _ _ rfl hs2
              · intro ac wc hs hd hz hf hw K hK
                have e0 : ac.eval (.tmp 72) = (.tuple #[valV Y.1, .bool (decide (Y.2 = 0))]) := hw 7 rfl
                clear hd hz hf hw
                simp only [Region.wanted, if_true, Oper.wp, execOp, resolve, List.map_toArray, List.map_cons, List.map_nil, Option.map_some, Option.map_none, e0]
                go_simp
                exact hK _ _ rfl (Same.refl _ _)
              · intro ac wc hs hd hz hf hw K hK
                have e0 : ac.eval (.tmp 64) = (.tuple #[valV Y.1, .bool (decide (Y.2 = 0))]) := hw 8 rfl
                clear hd hz hf hw
                simp only [Region.wanted, if_true, Oper.wp, execOp, resolve, List.map_toArray, List.map_cons, List.map_nil, Option.map_some, Option.map_none, e0]
                go_simp
                exact hK _ _ rfl (Same.refl _ _)
              · intro ac wc hs hd hz hf hw K hK
                have e0 : ac.eval (.tmp 64) = (.tuple #[valV Y.1, .bool (decide (Y.2 = 0))]) := hw 8 rfl
                clear hd hz hf hw
                simp only [Region.wanted, if_true, Oper.wp, execOp, resolve, List.map_toArray, List.map_cons, List.map_nil, Option.map_some, Option.map_none, e0]
                go_simp
                exact hK _ _ rfl (Same.refl _ _)
              · intro ac wc hs hd hz hf hw K hK
                clear hd hz hf hw
                simp only [Region.wanted, if_true, Oper.wp, execOp, resolve, List.map_toArray, List.map_cons, List.map_nil, Option.map_some, Option.map_none]
                go_simp
                exact hK _ _ ⟨_, rfl, hs.size, Row.new wc _ (valCs .zero)⟩ ((Same.refl _ _).alloc _)
            · intro vs wR hvl hvp hsR
              rcases vs with _ | ⟨z0, _ | ⟨z1, _ | ⟨z2, _ | ⟨z3, _ | ⟨z4, _ | ⟨z5, _ | ⟨z6, _ | ⟨z7, _ | ⟨z8, _ | ⟨z9, _ | ⟨z10, _ | ⟨z11, _ | ⟨zz, zr⟩⟩⟩⟩⟩⟩⟩⟩⟩⟩⟩⟩⟩
              rotate_right 1
              · simp at hvl
              · simp at hvl
              · simp at hvl
              · simp at hvl
              · simp at hvl
              · simp at hvl
              · simp at hvl
              · simp at hvl
              · simp at hvl
              · simp at hvl
              · simp at hvl
              · simp at hvl
              · simp at hvl
              · obtain rfl : z0 = (valV a) := hvp 0 (by omega)
                obtain rfl : z1 = (exV (.slice none 0 0) (.mk 1 [] a [])) := hvp 1 (by omega)
                obtain rfl : z2 = (valV b) := hvp 2 (by omega)
                obtain rfl : z3 = (exV (.slice none 0 0) (.mk 1 [] b [])) := hvp 3 (by omega)
                have hsl69 : ((.exl [(.mk 1 [] a []), (.mk 1 [] b [])]) : SP).p z4 wR := hvp 4 (by omega)
                have htr70 : ((.tree (.mk 3 [60, 61] .zero [(.mk 1 [] a []), (.mk 1 [] b [])])) : SP).p z5 wR := hvp 5 (by omega)
                obtain rfl : z6 = (.slice (some ⟨g0, 0, none⟩) 3 3) := hvp 6 (by omega)
                obtain rfl : z7 = (.tuple #[valV Y.1, .bool (decide (Y.2 = 0))]) := hvp 7 (by omega)
                obtain rfl : z8 = (.tuple #[valV Y.1, .bool (decide (Y.2 = 0))]) := hvp 8 (by omega)
                obtain rfl : z9 = (valV Y.1) := hvp 9 (by omega)
                obtain rfl : z10 = (.bool (decide (Y.2 = 0))) := hvp 10 (by omega)
                have hfr : ((.fresh W6.heap.size 23 (valCs .zero)) : SP).p z11 wR := hvp 11 (by omega)
                clear hvl hvp
                simp only [putAll, Act.put, List.setIfInBounds_toArray, List.set_cons_succ, List.set_cons_zero, List.take_succ_cons, List.take_zero, List.drop_succ_cons, List.drop_zero, List.eraseIdx_cons_succ, List.eraseIdx_cons_zero]
                obtain ⟨g, rfl, hg, hrg⟩ := hfr
                have y0 : wR.cell? ⟨g, 0, none⟩ = some (.int .i64 0) := hrg.cell 0
                have y1 : wR.cell? ⟨g, 1, none⟩ = some (.int .i64 0) := hrg.cell 1
                have y2 : wR.cell? ⟨g, 2, none⟩ = some (.string (str [])) := hrg.cell 2
                have x0 : wR.frozen? ⟨g, 0, none⟩ = false := hrg.frozen 0
                have x1 : wR.frozen? ⟨g, 1, none⟩ = false := hrg.frozen 1
                have x2 : wR.frozen? ⟨g, 2, none⟩ = false := hrg.frozen 2
                have Hrg := Lib.hid hrg
                have HsR := Lib.hid hsR
                have zG := hrg.lt
                clear hsR hrg 
                go_wp2
                go_meet
                exact ⟨_, g, rfl, rfl, rfl, hg, Hrg.out.set3 _, HsR.out.set3 (fun h => by omega) _ _ _⟩
            · intro vs wR hvl hvp hsR
              rcases vs with _ | ⟨z0, _ | ⟨z1, _ | ⟨z2, _ | ⟨z3, _ | ⟨z4, _ | ⟨z5, _ | ⟨z6, _ | ⟨z7, _ | ⟨z8, _ | ⟨z9, _ | ⟨z11, _ | ⟨zz, zr⟩⟩⟩⟩⟩⟩⟩⟩⟩⟩⟩⟩
              rotate_right 1
              · simp at hvl
              · simp at hvl
              · simp at hvl
              · simp at hvl
              · simp at hvl
              · simp at hvl
              · simp at hvl
              · simp at hvl
              · simp at hvl
              · simp at hvl
              · simp at hvl
              · simp at hvl
              · obtain rfl : z0 = (valV a) := hvp 0 (by omega)
                obtain rfl : z1 = (exV (.slice none 0 0) (.mk 1 [] a [])) := hvp 1 (by omega)
                obtain rfl : z2 = (valV b) := hvp 2 (by omega)
                obtain rfl : z3 = (exV (.slice none 0 0) (.mk 1 [] b [])) := hvp 3 (by omega)
                have hsl69 : ((.exl [(.mk 1 [] a []), (.mk 1 [] b [])]) : SP).p z4 wR := hvp 4 (by omega)
                have htr70 : ((.tree (.mk 3 [60, 61] .zero [(.mk 1 [] a []), (.mk 1 [] b [])])) : SP).p z5 wR := hvp 5 (by omega)
                obtain rfl : z6 = (.slice (some ⟨g0, 0, none⟩) 3 3) := hvp 6 (by omega)
                obtain rfl : z7 = (.tuple #[valV Y.1, .bool (decide (Y.2 = 0))]) := hvp 7 (by omega)
                obtain rfl : z8 = (.tuple #[valV Y.1, .bool (decide (Y.2 = 0))]) := hvp 8 (by omega)
                obtain rfl : z9 = (valV Y.1) := hvp 9 (by omega)
                have hfr : ((.fresh W6.heap.size 23 (valCs .zero)) : SP).p z11 wR := hvp 10 (by omega)
                clear hvl hvp
                simp only [putAll, Act.put, List.setIfInBounds_toArray, List.set_cons_succ, List.set_cons_zero, List.take_succ_cons, List.take_zero, List.drop_succ_cons, List.drop_zero, List.eraseIdx_cons_succ, List.eraseIdx_cons_zero]
                obtain ⟨g, rfl, hg, hrg⟩ := hfr
                have y0 : wR.cell? ⟨g, 0, none⟩ = some (.int .i64 0) := hrg.cell 0
                have y1 : wR.cell? ⟨g, 1, none⟩ = some (.int .i64 0) := hrg.cell 1
                have y2 : wR.cell? ⟨g, 2, none⟩ = some (.string (str [])) := hrg.cell 2
                have x0 : wR.frozen? ⟨g, 0, none⟩ = false := hrg.frozen 0
                have x1 : wR.frozen? ⟨g, 1, none⟩ = false := hrg.frozen 1
                have x2 : wR.frozen? ⟨g, 2, none⟩ = false := hrg.frozen 2
                have Hrg := Lib.hid hrg
                have HsR := Lib.hid hsR
                have zG := hrg.lt
                clear hsR hrg 
                go_wp2
                go_meet
                exact ⟨_, g, rfl, rfl, rfl, hg, Hrg.out.set3 _, HsR.out.set3 (fun h => by omega) _ _ _⟩
          case rest =>
            obtain ⟨W7, g7, rfl, rfl, rfl, hg7, hr7, hS7⟩ := hcut
            have hrow := RowR.keepAll Hrow.out hS7
            have hra := Hra.out.keep hS7 trivial
            have hrb := Hrb.out.keep hS7 trivial
            have hr3 := Hr3.out.keep hS7 trivial
            have hr4 := Hr4.out.keep hS7 trivial
            have hr5 := Hr5.out.keep hS7 trivial
            have hr6 := Hr6.out.keep hS7 trivial
            have HS7 := Lib.hid (HS6.out.trans hS7)
            clear hS7 Hra Hrb Hrow a0 a1 a2 b0 b1 b2 za zb Hr3 Hr4 Hr5 Hr6
            have Hrow := Lib.hid hrow
            have Hr3 := Lib.hid hr3
            have Hr4 := Lib.hid hr4
            have Hr5 := Lib.hid hr5
            have Hr6 := Lib.hid hr6
            have Hr7 := Lib.hid hr7
            clear hrow hr3 hr4 hr5 hr6 hr7
            have a0 : W7.cell? ⟨w.heap.size, 0, none⟩ = some (.int .i64 a.kind) := hra.cell 0
            have a1 : W7.cell? ⟨w.heap.size, 1, none⟩ = some (.int .i64 a.n) := hra.cell 1
            have a2 : W7.cell? ⟨w.heap.size, 2, none⟩ = some (.string (str a.s)) := hra.cell 2
            have b0 : W7.cell? ⟨w.heap.size + 1, 0, none⟩ = some (.int .i64 b.kind) := hrb.cell 0
            have b1 : W7.cell? ⟨w.heap.size + 1, 1, none⟩ = some (.int .i64 b.n) := hrb.cell 1
            have b2 : W7.cell? ⟨w.heap.size + 1, 2, none⟩ = some (.string (str b.s)) := hrb.cell 2
            have za := hra.lt
            have zb := hrb.lt
            have Hra := Lib.hid hra
            have Hrb := Lib.hid hrb
            clear hra hrb
            rw [HOrd.out.eL, HOrd.out.eM, HOrd.out.eQ, HOrd.out.eO, HOrd.out.eK]
            have ka : (a.kind == 0) = decide (a.kind = 0) := rfl
            have kb : (b.kind == 0) = decide (b.kind = 0) := rfl
            cases ok
            · obtain ⟨zL, zQ, zO⟩ := HOrd.out.bad (.inl rfl)
              rw [zL] at Hr3
              rw [zQ] at Hr5
              rw [zO] at Hr6
              have l0 : W7.cell? ⟨g3, 0, none⟩ = some (.int .i64 0) := Hr3.out.cell 0
              have l1 : W7.cell? ⟨g3, 1, none⟩ = some (.int .i64 0) := Hr3.out.cell 1
              have l2 : W7.cell? ⟨g3, 2, none⟩ = some (.string (str [])) := Hr3.out.cell 2
              have q0 : W7.cell? ⟨g5, 0, none⟩ = some (.int .i64 0) := Hr5.out.cell 0
              have q1 : W7.cell? ⟨g5, 1, none⟩ = some (.int .i64 0) := Hr5.out.cell 1
              have q2 : W7.cell? ⟨g5, 2, none⟩ = some (.string (str [])) := Hr5.out.cell 2
              have o0 : W7.cell? ⟨g6, 0, none⟩ = some (.int .i64 0) := Hr6.out.cell 0
              have o1 : W7.cell? ⟨g6, 1, none⟩ = some (.int .i64 0) := Hr6.out.cell 1
              have o2 : W7.cell? ⟨g6, 2, none⟩ = some (.string (str [])) := Hr6.out.cell 2
              clear zL zQ zO
              go_wp2
              go_ret
              exact ⟨rfl, HS7.out⟩
            · by_cases ha0 : a.kind = 0
              · obtain ⟨zL, zQ, zO⟩ := HOrd.out.bad (.inr (.inl ha0))
                rw [show decide (a.kind = 0) = true from by simpa using ha0] at ka
                clear ha0
                rw [zL] at Hr3
                rw [zQ] at Hr5
                rw [zO] at Hr6
                have l0 : W7.cell? ⟨g3, 0, none⟩ = some (.int .i64 0) := Hr3.out.cell 0
                have l1 : W7.cell? ⟨g3, 1, none⟩ = some (.int .i64 0) := Hr3.out.cell 1
                have l2 : W7.cell? ⟨g3, 2, none⟩ = some (.string (str [])) := Hr3.out.cell 2
                have q0 : W7.cell? ⟨g5, 0, none⟩ = some (.int .i64 0) := Hr5.out.cell 0
                have q1 : W7.cell? ⟨g5, 1, none⟩ = some (.int .i64 0) := Hr5.out.cell 1
                have q2 : W7.cell? ⟨g5, 2, none⟩ = some (.string (str [])) := Hr5.out.cell 2
                have o0 : W7.cell? ⟨g6, 0, none⟩ = some (.int .i64 0) := Hr6.out.cell 0
                have o1 : W7.cell? ⟨g6, 1, none⟩ = some (.int .i64 0) := Hr6.out.cell 1
                have o2 : W7.cell? ⟨g6, 2, none⟩ = some (.string (str [])) := Hr6.out.cell 2
                clear zL zQ zO
                go_wp2
                go_ret
                exact ⟨rfl, HS7.out⟩
              · by_cases hb0 : b.kind = 0
                · obtain ⟨zL, zQ, zO⟩ := HOrd.out.bad (.inr (.inr hb0))
                  rw [show decide (a.kind = 0) = false from by simpa using ha0] at ka
                  rw [show decide (b.kind = 0) = true from by simpa using hb0] at kb
                  clear hb0 ha0
                  rw [zL] at Hr3
                  rw [zQ] at Hr5
                  rw [zO] at Hr6
                  have l0 : W7.cell? ⟨g3, 0, none⟩ = some (.int .i64 0) := Hr3.out.cell 0
                  have l1 : W7.cell? ⟨g3, 1, none⟩ = some (.int .i64 0) := Hr3.out.cell 1
                  have l2 : W7.cell? ⟨g3, 2, none⟩ = some (.string (str [])) := Hr3.out.cell 2
                  have q0 : W7.cell? ⟨g5, 0, none⟩ = some (.int .i64 0) := Hr5.out.cell 0
                  have q1 : W7.cell? ⟨g5, 1, none⟩ = some (.int .i64 0) := Hr5.out.cell 1
                  have q2 : W7.cell? ⟨g5, 2, none⟩ = some (.string (str [])) := Hr5.out.cell 2
                  have o0 : W7.cell? ⟨g6, 0, none⟩ = some (.int .i64 0) := Hr6.out.cell 0
                  have o1 : W7.cell? ⟨g6, 1, none⟩ = some (.int .i64 0) := Hr6.out.cell 1
                  have o2 : W7.cell? ⟨g6, 2, none⟩ = some (.string (str [])) := Hr6.out.cell 2
                  clear zL zQ zO
                  go_wp2
                  go_ret
                  exact ⟨rfl, HS7.out⟩
                · obtain ⟨hLM, hways⟩ := HOrd.out.good rfl ha0 hb0
                  rw [show decide (a.kind = 0) = false from by simpa using ha0] at ka
                  rw [show decide (b.kind = 0) = false from by simpa using hb0] at kb
                  rw [← hLM] at Hr4
                  clear hLM ha0 hb0 HOrd EvL EvM EvQ EvO EvY
                  generalize L.1 = Lv at *
                  generalize Q.1 = Qv at *
                  generalize O.1 = Ov at *
                  generalize Y.1 = Yv at *
                  have l0 : W7.cell? ⟨g3, 0, none⟩ = some (.int .i64 Lv.kind) := Hr3.out.cell 0
                  have l1 : W7.cell? ⟨g3, 1, none⟩ = some (.int .i64 Lv.n) := Hr3.out.cell 1
                  have l2 : W7.cell? ⟨g3, 2, none⟩ = some (.string (str Lv.s)) := Hr3.out.cell 2
                  have m0 : W7.cell? ⟨g4, 0, none⟩ = some (.int .i64 Lv.kind) := Hr4.out.cell 0
                  have m1 : W7.cell? ⟨g4, 1, none⟩ = some (.int .i64 Lv.n) := Hr4.out.cell 1
                  have m2 : W7.cell? ⟨g4, 2, none⟩ = some (.string (str Lv.s)) := Hr4.out.cell 2
                  have q0 : W7.cell? ⟨g5, 0, none⟩ = some (.int .i64 Qv.kind) := Hr5.out.cell 0
                  have q1 : W7.cell? ⟨g5, 1, none⟩ = some (.int .i64 Qv.n) := Hr5.out.cell 1
                  have q2 : W7.cell? ⟨g5, 2, none⟩ = some (.string (str Qv.s)) := Hr5.out.cell 2
                  have o0 : W7.cell? ⟨g6, 0, none⟩ = some (.int .i64 Ov.kind) := Hr6.out.cell 0
                  have o1 : W7.cell? ⟨g6, 1, none⟩ = some (.int .i64 Ov.n) := Hr6.out.cell 1
                  have o2 : W7.cell? ⟨g6, 2, none⟩ = some (.string (str Ov.s)) := Hr6.out.cell 2
                  have y0 : W7.cell? ⟨g7, 0, none⟩ = some (.int .i64 Yv.kind) := Hr7.out.cell 0
                  have y1 : W7.cell? ⟨g7, 1, none⟩ = some (.int .i64 Yv.n) := Hr7.out.cell 1
                  have y2 : W7.cell? ⟨g7, 2, none⟩ = some (.string (str Yv.s)) := Hr7.out.cell 2
                  have gL := fun W => exTrue_any Lv W
                  have gQ := fun W => exTrue_any Qv W
                  have gO := fun W => exTrue_any Ov W
                  have gY := fun W => exTrue_any Yv W
                  have qLL := val_runeq Lv Lv
                  rw [show decide (Lv = Lv) = true from by simp] at qLL
                  rcases hways with ⟨hl, hq, ho, hy, hab⟩ | ⟨hl, hq, ho, hy, hab⟩ | ⟨hl, hq, ho, hy, hab⟩
                  · rw [hl] at gL
                    rw [hq] at gQ
                    rw [ho] at gO
                    rw [hy] at gY
                    have qab := val_runeq a b
                    rw [hab] at qab
                    clear hl hq ho hy hab
                    go_wp2
                    refine wp_region_eq_lit (vs := [(valV Lv), (valV Lv), (.bool true), (.bool true), (valV Qv), (.bool false), (valV Ov), (.bool true), (.bool true), (.bool true), (.bool true), (valV Yv), (.bool true), (valV Lv), (.bool true), (.bool true), undef, undef, (.bool true), (.bool true), (.bool true), (.bool true), (valV Lv), (.bool true), (.bool true), (valV Qv), (.bool false), (.bool false), (.bool true), (.bool true), (.bool true), (valV Qv), (.bool false), (valV a), (valV b), (.bool false), (.bool true), (.bool true), (.bool true)]) (by kernel_rfl) (by kernel_rfl) rfl rfl ?_ ?_
                    · refine ⟨?_, ?_, ?_, ?_, ?_, ?_, ?_, ?_, ?_, ?_, ?_, ?_, ?_, ?_, ?_, ?_, ?_, ?_, ?_, ?_, ?_, ?_, ?_, ?_, ?_, ?_, ?_, ?_, ?_, ?_, ?_, ?_, ?_, ?_, ?_, ?_, ?_, ?_, ?_, trivial⟩
                      · intro ac wc hs hd hz hf hw K hK
                        have e0 : ac.eval (.tmp 7) = (.pointer (some ⟨g3, 0, none⟩)) := hf 7 rfl
                        have m0 : wc.cell? ⟨g3, 0, none⟩ = some (.int .i64 Lv.kind) := hs.cell (p := ⟨g3, 0, none⟩) trivial l0
                        have m1 : wc.cell? ⟨g3, 1, none⟩ = some (.int .i64 Lv.n) := hs.cell (p := ⟨g3, 1, none⟩) trivial l1
                        have m2 : wc.cell? ⟨g3, 2, none⟩ = some (.string (str Lv.s)) := hs.cell (p := ⟨g3, 2, none⟩) trivial l2
                        clear hd hz hf hw
                        simp only [Region.wanted, if_true, Oper.wp, execOp, resolve, List.map_toArray, List.map_cons, List.map_nil, Option.map_some, Option.map_none, e0]
                        go_simp
                        exact hK _ _ rfl (Same.refl _ _)
                      · intro ac wc hs hd hz hf hw K hK
                        have e0 : ac.eval (.tmp 9) = (.pointer (some ⟨g4, 0, none⟩)) := hf 9 rfl
                        have m0 : wc.cell? ⟨g4, 0, none⟩ = some (.int .i64 Lv.kind) := hs.cell (p := ⟨g4, 0, none⟩) trivial m0
                        have m1 : wc.cell? ⟨g4, 1, none⟩ = some (.int .i64 Lv.n) := hs.cell (p := ⟨g4, 1, none⟩) trivial m1
                        have m2 : wc.cell? ⟨g4, 2, none⟩ = some (.string (str Lv.s)) := hs.cell (p := ⟨g4, 2, none⟩) trivial m2
                        clear hd hz hf hw
                        simp only [Region.wanted, if_true, Oper.wp, execOp, resolve, List.map_toArray, List.map_cons, List.map_nil, Option.map_some, Option.map_none, e0]
                        go_simp
                        exact hK _ _ rfl (Same.refl _ _)
                      · intro ac wc hs hd hz hf hw K hK
                        have e0 : ac.eval (.tmp 118) = (valV Lv) := hw 0 rfl
                        have e1 : ac.eval (.tmp 119) = (valV Lv) := hw 1 rfl
                        clear hd hz hf hw
                        simp only [Region.wanted, if_true, Oper.wp, execOp, resolve, List.map_toArray, List.map_cons, List.map_nil, Option.map_some, Option.map_none, e0, e1]
                        go_simp
                        exact hK _ _ rfl (Same.refl _ _)
                      · intro ac wc hs hd hz hf hw K hK
                        have e0 : ac.eval (.tmp 120) = (.bool true) := hw 2 rfl
                        clear hd hz hf hw
                        simp only [Region.wanted, if_true, Oper.wp, execOp, resolve, List.map_toArray, List.map_cons, List.map_nil, Option.map_some, Option.map_none, e0]
                        go_simp
                        exact hK _ _ rfl (Same.refl _ _)
                      · intro ac wc hs hd hz hf hw K hK
                        have eg : ac.eval (.tmp 121) = .bool true := hw 3 rfl
                        refine run_wanted (j := 3) (d := 121) (b := true) rfl rfl hz (of_decide_eq_true rfl) eg ?_
                        clear eg
                        have e0 : ac.eval (.tmp 11) = (.pointer (some ⟨g5, 0, none⟩)) := hf 11 rfl
                        have m0 : wc.cell? ⟨g5, 0, none⟩ = some (.int .i64 Qv.kind) := hs.cell (p := ⟨g5, 0, none⟩) trivial q0
                        have m1 : wc.cell? ⟨g5, 1, none⟩ = some (.int .i64 Qv.n) := hs.cell (p := ⟨g5, 1, none⟩) trivial q1
                        have m2 : wc.cell? ⟨g5, 2, none⟩ = some (.string (str Qv.s)) := hs.cell (p := ⟨g5, 2, none⟩) trivial q2
                        clear hd hz hf hw
                        simp only [Oper.wp, execOp, resolve, List.map_toArray, List.map_cons, List.map_nil, Option.map_some, Option.map_none, e0]
                        go_simp
                        exact hK _ _ rfl (Same.refl _ _)
                      · intro ac wc hs hd hz hf hw K hK
                        have eg : ac.eval (.tmp 121) = .bool true := hw 3 rfl
                        refine run_wanted (j := 3) (d := 121) (b := true) rfl rfl hz (of_decide_eq_true rfl) eg ?_
                        clear eg
                        have e0 : ac.eval (.tmp 122) = (valV Qv) := hw 4 rfl
                        clear hd hz hf hw
                        simp only [Oper.wp, execOp, resolve, List.map_toArray, List.map_cons, List.map_nil, Option.map_some, Option.map_none, e0]
                        go_simp
                        refine (gQ _).mono ?_
                        rintro e wd ⟨rfl, hs2⟩
                        exact hK _ _ rfl hs2
                      · intro ac wc hs hd hz hf hw K hK
                        have eg : ac.eval (.tmp 121) = .bool true := hw 3 rfl
                        refine run_wanted (j := 3) (d := 121) (b := true) rfl rfl hz (of_decide_eq_true rfl) eg ?_
                        clear eg
                        have e0 : ac.eval (.tmp 13) = (.pointer (some ⟨g6, 0, none⟩)) := hf 13 rfl
                        have m0 : wc.cell? ⟨g6, 0, none⟩ = some (.int .i64 Ov.kind) := hs.cell (p := ⟨g6, 0, none⟩) trivial o0
                        have m1 : wc.cell? ⟨g6, 1, none⟩ = some (.int .i64 Ov.n) := hs.cell (p := ⟨g6, 1, none⟩) trivial o1
                        have m2 : wc.cell? ⟨g6, 2, none⟩ = some (.string (str Ov.s)) := hs.cell (p := ⟨g6, 2, none⟩) trivial o2
                        clear hd hz hf hw
                        simp only [Oper.wp, execOp, resolve, List.map_toArray, List.map_cons, List.map_nil, Option.map_some, Option.map_none, e0]
                        go_simp
                        exact hK _ _ rfl (Same.refl _ _)
                      · intro ac wc hs hd hz hf hw K hK
                        have eg : ac.eval (.tmp 121) = .bool true := hw 3 rfl
                        refine run_wanted (j := 3) (d := 121) (b := true) rfl rfl hz (of_decide_eq_true rfl) eg ?_
                        clear eg
                        have e0 : ac.eval (.tmp 124) = (valV Ov) := hw 6 rfl
                        clear hd hz hf hw
                        simp only [Oper.wp, execOp, resolve, List.map_toArray, List.map_cons, List.map_nil, Option.map_some, Option.map_none, e0]
                        go_simp
                        refine (gO _).mono ?_
                        rintro e wd ⟨rfl, hs2⟩
                        exact hK _ _ rfl hs2
                      · intro ac wc hs hd hz hf hw K hK
                        have eg : ac.eval (.tmp 121) = .bool true := hw 3 rfl
                        refine run_wanted (j := 3) (d := 121) (b := true) rfl rfl hz (of_decide_eq_true rfl) eg ?_
                        clear eg
                        have e0 : ac.eval (.tmp 123) = (.bool false) := hw 5 rfl
                        have e1 : ac.eval (.tmp 125) = (.bool true) := hw 7 rfl
                        clear hd hz hf hw
                        simp only [Oper.wp, execOp, resolve, List.map_toArray, List.map_cons, List.map_nil, Option.map_some, Option.map_none, e0, e1]
                        go_simp
                        exact hK _ _ rfl (Same.refl _ _)
                      · intro ac wc hs hd hz hf hw K hK
                        have e0 : ac.eval (.tmp 121) = (.bool true) := hw 3 rfl
                        have e1 : ac.eval (.tmp 126) = (.bool true) := hw 8 rfl
                        clear hd hz hf hw
                        simp only [Region.wanted, if_true, Oper.wp, execOp, resolve, List.map_toArray, List.map_cons, List.map_nil, Option.map_some, Option.map_none, e0, e1]
                        go_simp
                        exact hK _ _ rfl (Same.refl _ _)
                      · intro ac wc hs hd hz hf hw K hK
                        have e0 : ac.eval (.tmp 127) = (.bool true) := hw 9 rfl
                        clear hd hz hf hw
                        simp only [Region.wanted, if_true, Oper.wp, execOp, resolve, List.map_toArray, List.map_cons, List.map_nil, Option.map_some, Option.map_none, e0]
                        go_simp
                        exact hK _ _ rfl (Same.refl _ _)
                      · intro ac wc hs hd hz hf hw K hK
                        have eg : ac.eval (.tmp 128) = .bool true := hw 10 rfl
                        refine run_wanted (j := 10) (d := 128) (b := true) rfl rfl hz (of_decide_eq_true rfl) eg ?_
                        clear eg
                        have e0 : ac.eval (.tmp 15) = (.pointer (some ⟨g7, 0, none⟩)) := hf 15 rfl
                        have m0 : wc.cell? ⟨g7, 0, none⟩ = some (.int .i64 Yv.kind) := hs.cell (p := ⟨g7, 0, none⟩) trivial y0
                        have m1 : wc.cell? ⟨g7, 1, none⟩ = some (.int .i64 Yv.n) := hs.cell (p := ⟨g7, 1, none⟩) trivial y1
                        have m2 : wc.cell? ⟨g7, 2, none⟩ = some (.string (str Yv.s)) := hs.cell (p := ⟨g7, 2, none⟩) trivial y2
                        clear hd hz hf hw
                        simp only [Oper.wp, execOp, resolve, List.map_toArray, List.map_cons, List.map_nil, Option.map_some, Option.map_none, e0]
                        go_simp
                        exact hK _ _ rfl (Same.refl _ _)
                      · intro ac wc hs hd hz hf hw K hK
                        have eg : ac.eval (.tmp 128) = .bool true := hw 10 rfl
                        refine run_wanted (j := 10) (d := 128) (b := true) rfl rfl hz (of_decide_eq_true rfl) eg ?_
                        clear eg
                        have e0 : ac.eval (.tmp 129) = (valV Yv) := hw 11 rfl
                        clear hd hz hf hw
                        simp only [Oper.wp, execOp, resolve, List.map_toArray, List.map_cons, List.map_nil, Option.map_some, Option.map_none, e0]
                        go_simp
                        refine (gY _).mono ?_
                        rintro e wd ⟨rfl, hs2⟩
                        exact hK _ _ rfl hs2
                      · intro ac wc hs hd hz hf hw K hK
                        have eg : ac.eval (.tmp 128) = .bool true := hw 10 rfl
                        refine run_wanted (j := 10) (d := 128) (b := true) rfl rfl hz (of_decide_eq_true rfl) eg ?_
                        clear eg
                        have e0 : ac.eval (.tmp 7) = (.pointer (some ⟨g3, 0, none⟩)) := hf 7 rfl
                        have m0 : wc.cell? ⟨g3, 0, none⟩ = some (.int .i64 Lv.kind) := hs.cell (p := ⟨g3, 0, none⟩) trivial l0
                        have m1 : wc.cell? ⟨g3, 1, none⟩ = some (.int .i64 Lv.n) := hs.cell (p := ⟨g3, 1, none⟩) trivial l1
                        have m2 : wc.cell? ⟨g3, 2, none⟩ = some (.string (str Lv.s)) := hs.cell (p := ⟨g3, 2, none⟩) trivial l2
                        clear hd hz hf hw
                        simp only [Oper.wp, execOp, resolve, List.map_toArray, List.map_cons, List.map_nil, Option.map_some, Option.map_none, e0]
                        go_simp
                        exact hK _ _ rfl (Same.refl _ _)
                      · intro ac wc hs hd hz hf hw K hK
                        have eg : ac.eval (.tmp 128) = .bool true := hw 10 rfl
                        refine run_wanted (j := 10) (d := 128) (b := true) rfl rfl hz (of_decide_eq_true rfl) eg ?_
                        clear eg
                        have e0 : ac.eval (.tmp 131) = (valV Lv) := hw 13 rfl
                        clear hd hz hf hw
                        simp only [Oper.wp, execOp, resolve, List.map_toArray, List.map_cons, List.map_nil, Option.map_some, Option.map_none, e0]
                        go_simp
                        refine (gL _).mono ?_
                        rintro e wd ⟨rfl, hs2⟩
                        exact hK _ _ rfl hs2
                      · intro ac wc hs hd hz hf hw K hK
                        have eg : ac.eval (.tmp 128) = .bool true := hw 10 rfl
                        refine run_wanted (j := 10) (d := 128) (b := true) rfl rfl hz (of_decide_eq_true rfl) eg ?_
                        clear eg
                        have e0 : ac.eval (.tmp 132) = (.bool true) := hw 14 rfl
                        clear hd hz hf hw
                        simp only [Oper.wp, execOp, resolve, List.map_toArray, List.map_cons, List.map_nil, Option.map_some, Option.map_none, e0]
                        go_simp
                        exact hK _ _ rfl (Same.refl _ _)
                      · intro ac wc hs hd hz hf hw K hK
                        have eg : ac.eval (.tmp 133) = .bool true := hw 15 rfl
                        refine skip_wanted (j := 15) (d := 133) (b := true) rfl rfl hz (of_decide_eq_true rfl) eg ?_
                        clear eg
                        exact hK _ _ rfl (Same.refl _ _)
                      · intro ac wc hs hd hz hf hw K hK
                        have eg : ac.eval (.tmp 133) = .bool true := hw 15 rfl
                        refine skip_wanted (j := 15) (d := 133) (b := true) rfl rfl hz (of_decide_eq_true rfl) eg ?_
                        clear eg
                        exact hK _ _ rfl (Same.refl _ _)
                      · intro ac wc hs hd hz hf hw K hK
                        have eg : ac.eval (.tmp 128) = .bool true := hw 10 rfl
                        refine run_wanted (j := 10) (d := 128) (b := true) rfl rfl hz (of_decide_eq_true rfl) eg ?_
                        clear eg
                        have e0 : ac.eval (.tmp 133) = (.bool true) := hw 15 rfl
                        have e1 : ac.eval (.tmp 135) = undef := hw 17 rfl
                        clear hd hz hf hw
                        simp only [Oper.wp, execOp, resolve, List.map_toArray, List.map_cons, List.map_nil, Option.map_some, Option.map_none, e0, e1]
                        go_simp
                        exact hK _ _ rfl (Same.refl _ _)
                      · intro ac wc hs hd hz hf hw K hK
                        have eg : ac.eval (.tmp 128) = .bool true := hw 10 rfl
                        refine run_wanted (j := 10) (d := 128) (b := true) rfl rfl hz (of_decide_eq_true rfl) eg ?_
                        clear eg
                        have e0 : ac.eval (.tmp 130) = (.bool true) := hw 12 rfl
                        have e1 : ac.eval (.tmp 136) = (.bool true) := hw 18 rfl
                        clear hd hz hf hw
                        simp only [Oper.wp, execOp, resolve, List.map_toArray, List.map_cons, List.map_nil, Option.map_some, Option.map_none, e0, e1]
                        go_simp
                        exact hK _ _ rfl (Same.refl _ _)
                      · intro ac wc hs hd hz hf hw K hK
                        have e0 : ac.eval (.tmp 128) = (.bool true) := hw 10 rfl
                        have e1 : ac.eval (.tmp 137) = (.bool true) := hw 19 rfl
                        clear hd hz hf hw
                        simp only [Region.wanted, if_true, Oper.wp, execOp, resolve, List.map_toArray, List.map_cons, List.map_nil, Option.map_some, Option.map_none, e0, e1]
                        go_simp
                        exact hK _ _ rfl (Same.refl _ _)
                      · intro ac wc hs hd hz hf hw K hK
                        have e0 : ac.eval (.tmp 138) = (.bool true) := hw 20 rfl
                        clear hd hz hf hw
                        simp only [Region.wanted, if_true, Oper.wp, execOp, resolve, List.map_toArray, List.map_cons, List.map_nil, Option.map_some, Option.map_none, e0]
                        go_simp
                        exact hK _ _ rfl (Same.refl _ _)
                      · intro ac wc hs hd hz hf hw K hK
                        have eg : ac.eval (.tmp 139) = .bool true := hw 21 rfl
                        refine run_wanted (j := 21) (d := 139) (b := true) rfl rfl hz (of_decide_eq_true rfl) eg ?_
                        clear eg
                        have e0 : ac.eval (.tmp 7) = (.pointer (some ⟨g3, 0, none⟩)) := hf 7 rfl
                        have m0 : wc.cell? ⟨g3, 0, none⟩ = some (.int .i64 Lv.kind) := hs.cell (p := ⟨g3, 0, none⟩) trivial l0
                        have m1 : wc.cell? ⟨g3, 1, none⟩ = some (.int .i64 Lv.n) := hs.cell (p := ⟨g3, 1, none⟩) trivial l1
                        have m2 : wc.cell? ⟨g3, 2, none⟩ = some (.string (str Lv.s)) := hs.cell (p := ⟨g3, 2, none⟩) trivial l2
                        clear hd hz hf hw
                        simp only [Oper.wp, execOp, resolve, List.map_toArray, List.map_cons, List.map_nil, Option.map_some, Option.map_none, e0]
                        go_simp
                        exact hK _ _ rfl (Same.refl _ _)
                      · intro ac wc hs hd hz hf hw K hK
                        have eg : ac.eval (.tmp 139) = .bool true := hw 21 rfl
                        refine run_wanted (j := 21) (d := 139) (b := true) rfl rfl hz (of_decide_eq_true rfl) eg ?_
                        clear eg
                        have e0 : ac.eval (.tmp 140) = (valV Lv) := hw 22 rfl
                        clear hd hz hf hw
                        simp only [Oper.wp, execOp, resolve, List.map_toArray, List.map_cons, List.map_nil, Option.map_some, Option.map_none, e0]
                        go_simp
                        refine (gL _).mono ?_
                        rintro e wd ⟨rfl, hs2⟩
                        exact hK _ _ rfl hs2
                      · intro ac wc hs hd hz hf hw K hK
                        have eg : ac.eval (.tmp 139) = .bool true := hw 21 rfl
                        refine run_wanted (j := 21) (d := 139) (b := true) rfl rfl hz (of_decide_eq_true rfl) eg ?_
                        clear eg
                        have e0 : ac.eval (.tmp 141) = (.bool true) := hw 23 rfl
                        clear hd hz hf hw
                        simp only [Oper.wp, execOp, resolve, List.map_toArray, List.map_cons, List.map_nil, Option.map_some, Option.map_none, e0]
                        go_simp
                        exact hK _ _ rfl (Same.refl _ _)
                      · intro ac wc hs hd hz hf hw K hK
                        have eg : ac.eval (.tmp 142) = .bool true := hw 24 rfl
                        refine run_wanted (j := 24) (d := 142) (b := true) rfl rfl hz (of_decide_eq_true rfl) eg ?_
                        clear eg
                        have e0 : ac.eval (.tmp 11) = (.pointer (some ⟨g5, 0, none⟩)) := hf 11 rfl
                        have m0 : wc.cell? ⟨g5, 0, none⟩ = some (.int .i64 Qv.kind) := hs.cell (p := ⟨g5, 0, none⟩) trivial q0
                        have m1 : wc.cell? ⟨g5, 1, none⟩ = some (.int .i64 Qv.n) := hs.cell (p := ⟨g5, 1, none⟩) trivial q1
                        have m2 : wc.cell? ⟨g5, 2, none⟩ = some (.string (str Qv.s)) := hs.cell (p := ⟨g5, 2, none⟩) trivial q2
                        clear hd hz hf hw
                        simp only [Oper.wp, execOp, resolve, List.map_toArray, List.map_cons, List.map_nil, Option.map_some, Option.map_none, e0]
                        go_simp
                        exact hK _ _ rfl (Same.refl _ _)
                      · intro ac wc hs hd hz hf hw K hK
                        have eg : ac.eval (.tmp 142) = .bool true := hw 24 rfl
                        refine run_wanted (j := 24) (d := 142) (b := true) rfl rfl hz (of_decide_eq_true rfl) eg ?_
                        clear eg
                        have e0 : ac.eval (.tmp 143) = (valV Qv) := hw 25 rfl
                        clear hd hz hf hw
                        simp only [Oper.wp, execOp, resolve, List.map_toArray, List.map_cons, List.map_nil, Option.map_some, Option.map_none, e0]
                        go_simp
                        refine (gQ _).mono ?_
                        rintro e wd ⟨rfl, hs2⟩
                        exact hK _ _ rfl hs2
                      · intro ac wc hs hd hz hf hw K hK
                        have eg : ac.eval (.tmp 139) = .bool true := hw 21 rfl
                        refine run_wanted (j := 21) (d := 139) (b := true) rfl rfl hz (of_decide_eq_true rfl) eg ?_
                        clear eg
                        have e0 : ac.eval (.tmp 142) = (.bool true) := hw 24 rfl
                        have e1 : ac.eval (.tmp 144) = (.bool false) := hw 26 rfl
                        clear hd hz hf hw
                        simp only [Oper.wp, execOp, resolve, List.map_toArray, List.map_cons, List.map_nil, Option.map_some, Option.map_none, e0, e1]
                        go_simp
                        exact hK _ _ rfl (Same.refl _ _)
                      · intro ac wc hs hd hz hf hw K hK
                        have eg : ac.eval (.tmp 139) = .bool true := hw 21 rfl
                        refine run_wanted (j := 21) (d := 139) (b := true) rfl rfl hz (of_decide_eq_true rfl) eg ?_
                        clear eg
                        have e0 : ac.eval (.tmp 145) = (.bool false) := hw 27 rfl
                        clear hd hz hf hw
                        simp only [Oper.wp, execOp, resolve, List.map_toArray, List.map_cons, List.map_nil, Option.map_some, Option.map_none, e0]
                        go_simp
                        exact hK _ _ rfl (Same.refl _ _)
                      · intro ac wc hs hd hz hf hw K hK
                        have e0 : ac.eval (.tmp 139) = (.bool true) := hw 21 rfl
                        have e1 : ac.eval (.tmp 146) = (.bool true) := hw 28 rfl
                        clear hd hz hf hw
                        simp only [Region.wanted, if_true, Oper.wp, execOp, resolve, List.map_toArray, List.map_cons, List.map_nil, Option.map_some, Option.map_none, e0, e1]
                        go_simp
                        exact hK _ _ rfl (Same.refl _ _)
                      · intro ac wc hs hd hz hf hw K hK
                        have e0 : ac.eval (.tmp 147) = (.bool true) := hw 29 rfl
                        clear hd hz hf hw
                        simp only [Region.wanted, if_true, Oper.wp, execOp, resolve, List.map_toArray, List.map_cons, List.map_nil, Option.map_some, Option.map_none, e0]
                        go_simp
                        exact hK _ _ rfl (Same.refl _ _)
                      · intro ac wc hs hd hz hf hw K hK
                        have eg : ac.eval (.tmp 148) = .bool true := hw 30 rfl
                        refine run_wanted (j := 30) (d := 148) (b := true) rfl rfl hz (of_decide_eq_true rfl) eg ?_
                        clear eg
                        have e0 : ac.eval (.tmp 11) = (.pointer (some ⟨g5, 0, none⟩)) := hf 11 rfl
                        have m0 : wc.cell? ⟨g5, 0, none⟩ = some (.int .i64 Qv.kind) := hs.cell (p := ⟨g5, 0, none⟩) trivial q0
                        have m1 : wc.cell? ⟨g5, 1, none⟩ = some (.int .i64 Qv.n) := hs.cell (p := ⟨g5, 1, none⟩) trivial q1
                        have m2 : wc.cell? ⟨g5, 2, none⟩ = some (.string (str Qv.s)) := hs.cell (p := ⟨g5, 2, none⟩) trivial q2
                        clear hd hz hf hw
                        simp only [Oper.wp, execOp, resolve, List.map_toArray, List.map_cons, List.map_nil, Option.map_some, Option.map_none, e0]
                        go_simp
                        exact hK _ _ rfl (Same.refl _ _)
                      · intro ac wc hs hd hz hf hw K hK
                        have eg : ac.eval (.tmp 148) = .bool true := hw 30 rfl
                        refine run_wanted (j := 30) (d := 148) (b := true) rfl rfl hz (of_decide_eq_true rfl) eg ?_
                        clear eg
                        have e0 : ac.eval (.tmp 149) = (valV Qv) := hw 31 rfl
                        clear hd hz hf hw
                        simp only [Oper.wp, execOp, resolve, List.map_toArray, List.map_cons, List.map_nil, Option.map_some, Option.map_none, e0]
                        go_simp
                        refine (gQ _).mono ?_
                        rintro e wd ⟨rfl, hs2⟩
                        exact hK _ _ rfl hs2
                      · intro ac wc hs hd hz hf hw K hK
                        have eg : ac.eval (.tmp 148) = .bool true := hw 30 rfl
                        refine run_wanted (j := 30) (d := 148) (b := true) rfl rfl hz (of_decide_eq_true rfl) eg ?_
                        clear eg
                        have e0 : ac.eval (.tmp 3) = (.pointer (some ⟨w.heap.size, 0, none⟩)) := hf 3 rfl
                        have m0 : wc.cell? ⟨w.heap.size, 0, none⟩ = some (.int .i64 a.kind) := hs.cell (p := ⟨w.heap.size, 0, none⟩) trivial a0
                        have m1 : wc.cell? ⟨w.heap.size, 1, none⟩ = some (.int .i64 a.n) := hs.cell (p := ⟨w.heap.size, 1, none⟩) trivial a1
                        have m2 : wc.cell? ⟨w.heap.size, 2, none⟩ = some (.string (str a.s)) := hs.cell (p := ⟨w.heap.size, 2, none⟩) trivial a2
                        clear hd hz hf hw
                        simp only [Oper.wp, execOp, resolve, List.map_toArray, List.map_cons, List.map_nil, Option.map_some, Option.map_none, e0]
                        go_simp
                        exact hK _ _ rfl (Same.refl _ _)
                      · intro ac wc hs hd hz hf hw K hK
                        have eg : ac.eval (.tmp 148) = .bool true := hw 30 rfl
                        refine run_wanted (j := 30) (d := 148) (b := true) rfl rfl hz (of_decide_eq_true rfl) eg ?_
                        clear eg
                        have e0 : ac.eval (.tmp 4) = (.pointer (some ⟨w.heap.size + 1, 0, none⟩)) := hf 4 rfl
                        have m0 : wc.cell? ⟨w.heap.size + 1, 0, none⟩ = some (.int .i64 b.kind) := hs.cell (p := ⟨w.heap.size + 1, 0, none⟩) trivial b0
                        have m1 : wc.cell? ⟨w.heap.size + 1, 1, none⟩ = some (.int .i64 b.n) := hs.cell (p := ⟨w.heap.size + 1, 1, none⟩) trivial b1
                        have m2 : wc.cell? ⟨w.heap.size + 1, 2, none⟩ = some (.string (str b.s)) := hs.cell (p := ⟨w.heap.size + 1, 2, none⟩) trivial b2
                        clear hd hz hf hw
                        simp only [Oper.wp, execOp, resolve, List.map_toArray, List.map_cons, List.map_nil, Option.map_some, Option.map_none, e0]
                        go_simp
                        exact hK _ _ rfl (Same.refl _ _)
                      · intro ac wc hs hd hz hf hw K hK
                        have eg : ac.eval (.tmp 148) = .bool true := hw 30 rfl
                        refine run_wanted (j := 30) (d := 148) (b := true) rfl rfl hz (of_decide_eq_true rfl) eg ?_
                        clear eg
                        have e0 : ac.eval (.tmp 151) = (valV a) := hw 33 rfl
                        have e1 : ac.eval (.tmp 152) = (valV b) := hw 34 rfl
                        clear hd hz hf hw
                        simp only [Oper.wp, execOp, resolve, List.map_toArray, List.map_cons, List.map_nil, Option.map_some, Option.map_none, e0, e1]
                        go_simp
                        exact hK _ _ rfl (Same.refl _ _)
                      · intro ac wc hs hd hz hf hw K hK
                        have eg : ac.eval (.tmp 148) = .bool true := hw 30 rfl
                        refine run_wanted (j := 30) (d := 148) (b := true) rfl rfl hz (of_decide_eq_true rfl) eg ?_
                        clear eg
                        have e0 : ac.eval (.tmp 150) = (.bool false) := hw 32 rfl
                        have e1 : ac.eval (.tmp 153) = (.bool false) := hw 35 rfl
                        clear hd hz hf hw
                        simp only [Oper.wp, execOp, resolve, List.map_toArray, List.map_cons, List.map_nil, Option.map_some, Option.map_none, e0, e1]
                        go_simp
                        exact hK _ _ rfl (Same.refl _ _)
                      · intro ac wc hs hd hz hf hw K hK
                        have e0 : ac.eval (.tmp 148) = (.bool true) := hw 30 rfl
                        have e1 : ac.eval (.tmp 154) = (.bool true) := hw 36 rfl
                        clear hd hz hf hw
                        simp only [Region.wanted, if_true, Oper.wp, execOp, resolve, List.map_toArray, List.map_cons, List.map_nil, Option.map_some, Option.map_none, e0, e1]
                        go_simp
                        exact hK _ _ rfl (Same.refl _ _)
                      · intro ac wc hs hd hz hf hw K hK
                        have e0 : ac.eval (.tmp 155) = (.bool true) := hw 37 rfl
                        clear hd hz hf hw
                        simp only [Region.wanted, if_true, Oper.wp, execOp, resolve, List.map_toArray, List.map_cons, List.map_nil, Option.map_some, Option.map_none, e0]
                        go_simp
                        exact hK _ _ rfl (Same.refl _ _)
                    · intro wR hsR
                      simp only [putAll, Act.put, List.setIfInBounds_toArray, List.set_cons_succ, List.set_cons_zero]
                      go_wp2
                      go_ret
                      exact ⟨rfl, HS7.out.trans hsR⟩
                  · rw [hl] at gL
                    rw [hq] at gQ
                    rw [ho] at gO
                    rw [hy] at gY
                    have qab := val_runeq a b
                    rw [hab] at qab
                    clear hl hq ho hy hab
                    go_wp2
                    refine wp_region_eq_lit (vs := [(valV Lv), (valV Lv), (.bool true), (.bool true), (valV Qv), (.bool true), (valV Ov), (.bool false), (.bool true), (.bool true), (.bool true), (valV Yv), (.bool true), (valV Lv), (.bool false), (.bool false), (valV Qv), (.bool true), (.bool true), (.bool true), (.bool true), (.bool true), (valV Lv), (.bool false), (.bool false), undef, undef, (.bool false), (.bool true), (.bool true), (.bool true), (valV Qv), (.bool true), (valV a), (valV b), (.bool true), (.bool true), (.bool true), (.bool true)]) (by kernel_rfl) (by kernel_rfl) rfl rfl ?_ ?_
                    · refine ⟨?_, ?_, ?_, ?_, ?_, ?_, ?_, ?_, ?_, ?_, ?_, ?_, ?_, ?_, ?_, ?_, ?_, ?_, ?_, ?_, ?_, ?_, ?_, ?_, ?_, ?_, ?_, ?_, ?_, ?_, ?_, ?_, ?_, ?_, ?_, ?_, ?_, ?_, ?_, trivial⟩
                      · intro ac wc hs hd hz hf hw K hK
                        have e0 : ac.eval (.tmp 7) = (.pointer (some ⟨g3, 0, none⟩)) := hf 7 rfl
                        have m0 : wc.cell? ⟨g3, 0, none⟩ = some (.int .i64 Lv.kind) := hs.cell (p := ⟨g3, 0, none⟩) trivial l0
                        have m1 : wc.cell? ⟨g3, 1, none⟩ = some (.int .i64 Lv.n) := hs.cell (p := ⟨g3, 1, none⟩) trivial l1
                        have m2 : wc.cell? ⟨g3, 2, none⟩ = some (.string (str Lv.s)) := hs.cell (p := ⟨g3, 2, none⟩) trivial l2
                        clear hd hz hf hw
                        simp only [Region.wanted, if_true, Oper.wp, execOp, resolve, List.map_toArray, List.map_cons, List.map_nil, Option.map_some, Option.map_none, e0]
                        go_simp
                        exact hK _ _ rfl (Same.refl _ _)
                      · intro ac wc hs hd hz hf hw K hK
                        have e0 : ac.eval (.tmp 9) = (.pointer (some ⟨g4, 0, none⟩)) := hf 9 rfl
                        have m0 : wc.cell? ⟨g4, 0, none⟩ = some (.int .i64 Lv.kind) := hs.cell (p := ⟨g4, 0, none⟩) trivial m0
                        have m1 : wc.cell? ⟨g4, 1, none⟩ = some (.int .i64 Lv.n) := hs.cell (p := ⟨g4, 1, none⟩) trivial m1
                        have m2 : wc.cell? ⟨g4, 2, none⟩ = some (.string (str Lv.s)) := hs.cell (p := ⟨g4, 2, none⟩) trivial m2
                        clear hd hz hf hw
                        simp only [Region.wanted, if_true, Oper.wp, execOp, resolve, List.map_toArray, List.map_cons, List.map_nil, Option.map_some, Option.map_none, e0]
                        go_simp
                        exact hK _ _ rfl (Same.refl _ _)
                      · intro ac wc hs hd hz hf hw K hK
                        have e0 : ac.eval (.tmp 118) = (valV Lv) := hw 0 rfl
                        have e1 : ac.eval (.tmp 119) = (valV Lv) := hw 1 rfl
                        clear hd hz hf hw
                        simp only [Region.wanted, if_true, Oper.wp, execOp, resolve, List.map_toArray, List.map_cons, List.map_nil, Option.map_some, Option.map_none, e0, e1]
                        go_simp
                        exact hK _ _ rfl (Same.refl _ _)
                      · intro ac wc hs hd hz hf hw K hK
                        have e0 : ac.eval (.tmp 120) = (.bool true) := hw 2 rfl
                        clear hd hz hf hw
                        simp only [Region.wanted, if_true, Oper.wp, execOp, resolve, List.map_toArray, List.map_cons, List.map_nil, Option.map_some, Option.map_none, e0]
                        go_simp
                        exact hK _ _ rfl (Same.refl _ _)
                      · intro ac wc hs hd hz hf hw K hK
                        have eg : ac.eval (.tmp 121) = .bool true := hw 3 rfl
                        refine run_wanted (j := 3) (d := 121) (b := true) rfl rfl hz (of_decide_eq_true rfl) eg ?_
                        clear eg
                        have e0 : ac.eval (.tmp 11) = (.pointer (some ⟨g5, 0, none⟩)) := hf 11 rfl
                        have m0 : wc.cell? ⟨g5, 0, none⟩ = some (.int .i64 Qv.kind) := hs.cell (p := ⟨g5, 0, none⟩) trivial q0
                        have m1 : wc.cell? ⟨g5, 1, none⟩ = some (.int .i64 Qv.n) := hs.cell (p := ⟨g5, 1, none⟩) trivial q1
                        have m2 : wc.cell? ⟨g5, 2, none⟩ = some (.string (str Qv.s)) := hs.cell (p := ⟨g5, 2, none⟩) trivial q2
                        clear hd hz hf hw
                        simp only [Oper.wp, execOp, resolve, List.map_toArray, List.map_cons, List.map_nil, Option.map_some, Option.map_none, e0]
                        go_simp
                        exact hK _ _ rfl (Same.refl _ _)
                      · intro ac wc hs hd hz hf hw K hK
                        have eg : ac.eval (.tmp 121) = .bool true := hw 3 rfl
                        refine run_wanted (j := 3) (d := 121) (b := true) rfl rfl hz (of_decide_eq_true rfl) eg ?_
                        clear eg
                        have e0 : ac.eval (.tmp 122) = (valV Qv) := hw 4 rfl
                        clear hd hz hf hw
                        simp only [Oper.wp, execOp, resolve, List.map_toArray, List.map_cons, List.map_nil, Option.map_some, Option.map_none, e0]
                        go_simp
                        refine (gQ _).mono ?_
                        rintro e wd ⟨rfl, hs2⟩
                        exact hK _ _ rfl hs2
                      · intro ac wc hs hd hz hf hw K hK
                        have eg : ac.eval (.tmp 121) = .bool true := hw 3 rfl
                        refine run_wanted (j := 3) (d := 121) (b := true) rfl rfl hz (of_decide_eq_true rfl) eg ?_
                        clear eg
                        have e0 : ac.eval (.tmp 13) = (.pointer (some ⟨g6, 0, none⟩)) := hf 13 rfl
                        have m0 : wc.cell? ⟨g6, 0, none⟩ = some (.int .i64 Ov.kind) := hs.cell (p := ⟨g6, 0, none⟩) trivial o0
                        have m1 : wc.cell? ⟨g6, 1, none⟩ = some (.int .i64 Ov.n) := hs.cell (p := ⟨g6, 1, none⟩) trivial o1
                        have m2 : wc.cell? ⟨g6, 2, none⟩ = some (.string (str Ov.s)) := hs.cell (p := ⟨g6, 2, none⟩) trivial o2
                        clear hd hz hf hw
                        simp only [Oper.wp, execOp, resolve, List.map_toArray, List.map_cons, List.map_nil, Option.map_some, Option.map_none, e0]
                        go_simp
                        exact hK _ _ rfl (Same.refl _ _)
                      · intro ac wc hs hd hz hf hw K hK
                        have eg : ac.eval (.tmp 121) = .bool true := hw 3 rfl
                        refine run_wanted (j := 3) (d := 121) (b := true) rfl rfl hz (of_decide_eq_true rfl) eg ?_
                        clear eg
                        have e0 : ac.eval (.tmp 124) = (valV Ov) := hw 6 rfl
                        clear hd hz hf hw
                        simp only [Oper.wp, execOp, resolve, List.map_toArray, List.map_cons, List.map_nil, Option.map_some, Option.map_none, e0]
                        go_simp
                        refine (gO _).mono ?_
                        rintro e wd ⟨rfl, hs2⟩
                        exact hK _ _ rfl hs2
                      · intro ac wc hs hd hz hf hw K hK
                        have eg : ac.eval (.tmp 121) = .bool true := hw 3 rfl
                        refine run_wanted (j := 3) (d := 121) (b := true) rfl rfl hz (of_decide_eq_true rfl) eg ?_
                        clear eg
                        have e0 : ac.eval (.tmp 123) = (.bool true) := hw 5 rfl
                        have e1 : ac.eval (.tmp 125) = (.bool false) := hw 7 rfl
                        clear hd hz hf hw
                        simp only [Oper.wp, execOp, resolve, List.map_toArray, List.map_cons, List.map_nil, Option.map_some, Option.map_none, e0, e1]
                        go_simp
                        exact hK _ _ rfl (Same.refl _ _)
                      · intro ac wc hs hd hz hf hw K hK
                        have e0 : ac.eval (.tmp 121) = (.bool true) := hw 3 rfl
                        have e1 : ac.eval (.tmp 126) = (.bool true) := hw 8 rfl
                        clear hd hz hf hw
                        simp only [Region.wanted, if_true, Oper.wp, execOp, resolve, List.map_toArray, List.map_cons, List.map_nil, Option.map_some, Option.map_none, e0, e1]
                        go_simp
                        exact hK _ _ rfl (Same.refl _ _)
                      · intro ac wc hs hd hz hf hw K hK
                        have e0 : ac.eval (.tmp 127) = (.bool true) := hw 9 rfl
                        clear hd hz hf hw
                        simp only [Region.wanted, if_true, Oper.wp, execOp, resolve, List.map_toArray, List.map_cons, List.map_nil, Option.map_some, Option.map_none, e0]
                        go_simp
                        exact hK _ _ rfl (Same.refl _ _)
                      · intro ac wc hs hd hz hf hw K hK
                        have eg : ac.eval (.tmp 128) = .bool true := hw 10 rfl
                        refine run_wanted (j := 10) (d := 128) (b := true) rfl rfl hz (of_decide_eq_true rfl) eg ?_
                        clear eg
                        have e0 : ac.eval (.tmp 15) = (.pointer (some ⟨g7, 0, none⟩)) := hf 15 rfl
                        have m0 : wc.cell? ⟨g7, 0, none⟩ = some (.int .i64 Yv.kind) := hs.cell (p := ⟨g7, 0, none⟩) trivial y0
                        have m1 : wc.cell? ⟨g7, 1, none⟩ = some (.int .i64 Yv.n) := hs.cell (p := ⟨g7, 1, none⟩) trivial y1
                        have m2 : wc.cell? ⟨g7, 2, none⟩ = some (.string (str Yv.s)) := hs.cell (p := ⟨g7, 2, none⟩) trivial y2
                        clear hd hz hf hw
                        simp only [Oper.wp, execOp, resolve, List.map_toArray, List.map_cons, List.map_nil, Option.map_some, Option.map_none, e0]
                        go_simp
                        exact hK _ _ rfl (Same.refl _ _)
                      · intro ac wc hs hd hz hf hw K hK
                        have eg : ac.eval (.tmp 128) = .bool true := hw 10 rfl
                        refine run_wanted (j := 10) (d := 128) (b := true) rfl rfl hz (of_decide_eq_true rfl) eg ?_
                        clear eg
                        have e0 : ac.eval (.tmp 129) = (valV Yv) := hw 11 rfl
                        clear hd hz hf hw
                        simp only [Oper.wp, execOp, resolve, List.map_toArray, List.map_cons, List.map_nil, Option.map_some, Option.map_none, e0]
                        go_simp
                        refine (gY _).mono ?_
                        rintro e wd ⟨rfl, hs2⟩
                        exact hK _ _ rfl hs2
                      · intro ac wc hs hd hz hf hw K hK
                        have eg : ac.eval (.tmp 128) = .bool true := hw 10 rfl
                        refine run_wanted (j := 10) (d := 128) (b := true) rfl rfl hz (of_decide_eq_true rfl) eg ?_
                        clear eg
                        have e0 : ac.eval (.tmp 7) = (.pointer (some ⟨g3, 0, none⟩)) := hf 7 rfl
                        have m0 : wc.cell? ⟨g3, 0, none⟩ = some (.int .i64 Lv.kind) := hs.cell (p := ⟨g3, 0, none⟩) trivial l0
                        have m1 : wc.cell? ⟨g3, 1, none⟩ = some (.int .i64 Lv.n) := hs.cell (p := ⟨g3, 1, none⟩) trivial l1
                        have m2 : wc.cell? ⟨g3, 2, none⟩ = some (.string (str Lv.s)) := hs.cell (p := ⟨g3, 2, none⟩) trivial l2
                        clear hd hz hf hw
                        simp only [Oper.wp, execOp, resolve, List.map_toArray, List.map_cons, List.map_nil, Option.map_some, Option.map_none, e0]
                        go_simp
                        exact hK _ _ rfl (Same.refl _ _)
                      · intro ac wc hs hd hz hf hw K hK
                        have eg : ac.eval (.tmp 128) = .bool true := hw 10 rfl
                        refine run_wanted (j := 10) (d := 128) (b := true) rfl rfl hz (of_decide_eq_true rfl) eg ?_
                        clear eg
                        have e0 : ac.eval (.tmp 131) = (valV Lv) := hw 13 rfl
                        clear hd hz hf hw
                        simp only [Oper.wp, execOp, resolve, List.map_toArray, List.map_cons, List.map_nil, Option.map_some, Option.map_none, e0]
                        go_simp
                        refine (gL _).mono ?_
                        rintro e wd ⟨rfl, hs2⟩
                        exact hK _ _ rfl hs2
                      · intro ac wc hs hd hz hf hw K hK
                        have eg : ac.eval (.tmp 128) = .bool true := hw 10 rfl
                        refine run_wanted (j := 10) (d := 128) (b := true) rfl rfl hz (of_decide_eq_true rfl) eg ?_
                        clear eg
                        have e0 : ac.eval (.tmp 132) = (.bool false) := hw 14 rfl
                        clear hd hz hf hw
                        simp only [Oper.wp, execOp, resolve, List.map_toArray, List.map_cons, List.map_nil, Option.map_some, Option.map_none, e0]
                        go_simp
                        exact hK _ _ rfl (Same.refl _ _)
                      · intro ac wc hs hd hz hf hw K hK
                        have eg : ac.eval (.tmp 133) = .bool false := hw 15 rfl
                        refine run_wanted (j := 15) (d := 133) (b := false) rfl rfl hz (of_decide_eq_true rfl) eg ?_
                        clear eg
                        have e0 : ac.eval (.tmp 11) = (.pointer (some ⟨g5, 0, none⟩)) := hf 11 rfl
                        have m0 : wc.cell? ⟨g5, 0, none⟩ = some (.int .i64 Qv.kind) := hs.cell (p := ⟨g5, 0, none⟩) trivial q0
                        have m1 : wc.cell? ⟨g5, 1, none⟩ = some (.int .i64 Qv.n) := hs.cell (p := ⟨g5, 1, none⟩) trivial q1
                        have m2 : wc.cell? ⟨g5, 2, none⟩ = some (.string (str Qv.s)) := hs.cell (p := ⟨g5, 2, none⟩) trivial q2
                        clear hd hz hf hw
                        simp only [Oper.wp, execOp, resolve, List.map_toArray, List.map_cons, List.map_nil, Option.map_some, Option.map_none, e0]
                        go_simp
                        exact hK _ _ rfl (Same.refl _ _)
                      · intro ac wc hs hd hz hf hw K hK
                        have eg : ac.eval (.tmp 133) = .bool false := hw 15 rfl
                        refine run_wanted (j := 15) (d := 133) (b := false) rfl rfl hz (of_decide_eq_true rfl) eg ?_
                        clear eg
                        have e0 : ac.eval (.tmp 134) = (valV Qv) := hw 16 rfl
                        clear hd hz hf hw
                        simp only [Oper.wp, execOp, resolve, List.map_toArray, List.map_cons, List.map_nil, Option.map_some, Option.map_none, e0]
                        go_simp
                        refine (gQ _).mono ?_
                        rintro e wd ⟨rfl, hs2⟩
                        exact hK _ _ rfl hs2
                      · intro ac wc hs hd hz hf hw K hK
                        have eg : ac.eval (.tmp 128) = .bool true := hw 10 rfl
                        refine run_wanted (j := 10) (d := 128) (b := true) rfl rfl hz (of_decide_eq_true rfl) eg ?_
                        clear eg
                        have e0 : ac.eval (.tmp 133) = (.bool false) := hw 15 rfl
                        have e1 : ac.eval (.tmp 135) = (.bool true) := hw 17 rfl
                        clear hd hz hf hw
                        simp only [Oper.wp, execOp, resolve, List.map_toArray, List.map_cons, List.map_nil, Option.map_some, Option.map_none, e0, e1]
                        go_simp
                        exact hK _ _ rfl (Same.refl _ _)
                      · intro ac wc hs hd hz hf hw K hK
                        have eg : ac.eval (.tmp 128) = .bool true := hw 10 rfl
                        refine run_wanted (j := 10) (d := 128) (b := true) rfl rfl hz (of_decide_eq_true rfl) eg ?_
                        clear eg
                        have e0 : ac.eval (.tmp 130) = (.bool true) := hw 12 rfl
                        have e1 : ac.eval (.tmp 136) = (.bool true) := hw 18 rfl
                        clear hd hz hf hw
                        simp only [Oper.wp, execOp, resolve, List.map_toArray, List.map_cons, List.map_nil, Option.map_some, Option.map_none, e0, e1]
                        go_simp
                        exact hK _ _ rfl (Same.refl _ _)
                      · intro ac wc hs hd hz hf hw K hK
                        have e0 : ac.eval (.tmp 128) = (.bool true) := hw 10 rfl
                        have e1 : ac.eval (.tmp 137) = (.bool true) := hw 19 rfl
                        clear hd hz hf hw
                        simp only [Region.wanted, if_true, Oper.wp, execOp, resolve, List.map_toArray, List.map_cons, List.map_nil, Option.map_some, Option.map_none, e0, e1]
                        go_simp
                        exact hK _ _ rfl (Same.refl _ _)
                      · intro ac wc hs hd hz hf hw K hK
                        have e0 : ac.eval (.tmp 138) = (.bool true) := hw 20 rfl
                        clear hd hz hf hw
                        simp only [Region.wanted, if_true, Oper.wp, execOp, resolve, List.map_toArray, List.map_cons, List.map_nil, Option.map_some, Option.map_none, e0]
                        go_simp
                        exact hK _ _ rfl (Same.refl _ _)
                      · intro ac wc hs hd hz hf hw K hK
                        have eg : ac.eval (.tmp 139) = .bool true := hw 21 rfl
                        refine run_wanted (j := 21) (d := 139) (b := true) rfl rfl hz (of_decide_eq_true rfl) eg ?_
                        clear eg
                        have e0 : ac.eval (.tmp 7) = (.pointer (some ⟨g3, 0, none⟩)) := hf 7 rfl
                        have m0 : wc.cell? ⟨g3, 0, none⟩ = some (.int .i64 Lv.kind) := hs.cell (p := ⟨g3, 0, none⟩) trivial l0
                        have m1 : wc.cell? ⟨g3, 1, none⟩ = some (.int .i64 Lv.n) := hs.cell (p := ⟨g3, 1, none⟩) trivial l1
                        have m2 : wc.cell? ⟨g3, 2, none⟩ = some (.string (str Lv.s)) := hs.cell (p := ⟨g3, 2, none⟩) trivial l2
                        clear hd hz hf hw
                        simp only [Oper.wp, execOp, resolve, List.map_toArray, List.map_cons, List.map_nil, Option.map_some, Option.map_none, e0]
                        go_simp
                        exact hK _ _ rfl (Same.refl _ _)
                      · intro ac wc hs hd hz hf hw K hK
                        have eg : ac.eval (.tmp 139) = .bool true := hw 21 rfl
                        refine run_wanted (j := 21) (d := 139) (b := true) rfl rfl hz (of_decide_eq_true rfl) eg ?_
                        clear eg
                        have e0 : ac.eval (.tmp 140) = (valV Lv) := hw 22 rfl
                        clear hd hz hf hw
                        simp only [Oper.wp, execOp, resolve, List.map_toArray, List.map_cons, List.map_nil, Option.map_some, Option.map_none, e0]
                        go_simp
                        refine (gL _).mono ?_
                        rintro e wd ⟨rfl, hs2⟩
                        exact hK _ _ rfl hs2
                      · intro ac wc hs hd hz hf hw K hK
                        have eg : ac.eval (.tmp 139) = .bool true := hw 21 rfl
                        refine run_wanted (j := 21) (d := 139) (b := true) rfl rfl hz (of_decide_eq_true rfl) eg ?_
                        clear eg
                        have e0 : ac.eval (.tmp 141) = (.bool false) := hw 23 rfl
                        clear hd hz hf hw
                        simp only [Oper.wp, execOp, resolve, List.map_toArray, List.map_cons, List.map_nil, Option.map_some, Option.map_none, e0]
                        go_simp
                        exact hK _ _ rfl (Same.refl _ _)
                      · intro ac wc hs hd hz hf hw K hK
                        have eg : ac.eval (.tmp 142) = .bool false := hw 24 rfl
                        refine skip_wanted (j := 24) (d := 142) (b := false) rfl rfl hz (of_decide_eq_true rfl) eg ?_
                        clear eg
                        exact hK _ _ rfl (Same.refl _ _)
                      · intro ac wc hs hd hz hf hw K hK
                        have eg : ac.eval (.tmp 142) = .bool false := hw 24 rfl
                        refine skip_wanted (j := 24) (d := 142) (b := false) rfl rfl hz (of_decide_eq_true rfl) eg ?_
                        clear eg
                        exact hK _ _ rfl (Same.refl _ _)
                      · intro ac wc hs hd hz hf hw K hK
                        have eg : ac.eval (.tmp 139) = .bool true := hw 21 rfl
                        refine run_wanted (j := 21) (d := 139) (b := true) rfl rfl hz (of_decide_eq_true rfl) eg ?_
                        clear eg
                        have e0 : ac.eval (.tmp 142) = (.bool false) := hw 24 rfl
                        have e1 : ac.eval (.tmp 144) = undef := hw 26 rfl
                        clear hd hz hf hw
                        simp only [Oper.wp, execOp, resolve, List.map_toArray, List.map_cons, List.map_nil, Option.map_some, Option.map_none, e0, e1]
                        go_simp
                        exact hK _ _ rfl (Same.refl _ _)
                      · intro ac wc hs hd hz hf hw K hK
                        have eg : ac.eval (.tmp 139) = .bool true := hw 21 rfl
                        refine run_wanted (j := 21) (d := 139) (b := true) rfl rfl hz (of_decide_eq_true rfl) eg ?_
                        clear eg
                        have e0 : ac.eval (.tmp 145) = (.bool false) := hw 27 rfl
                        clear hd hz hf hw
                        simp only [Oper.wp, execOp, resolve, List.map_toArray, List.map_cons, List.map_nil, Option.map_some, Option.map_none, e0]
                        go_simp
                        exact hK _ _ rfl (Same.refl _ _)
                      · intro ac wc hs hd hz hf hw K hK
                        have e0 : ac.eval (.tmp 139) = (.bool true) := hw 21 rfl
                        have e1 : ac.eval (.tmp 146) = (.bool true) := hw 28 rfl
                        clear hd hz hf hw
                        simp only [Region.wanted, if_true, Oper.wp, execOp, resolve, List.map_toArray, List.map_cons, List.map_nil, Option.map_some, Option.map_none, e0, e1]
                        go_simp
                        exact hK _ _ rfl (Same.refl _ _)
                      · intro ac wc hs hd hz hf hw K hK
                        have e0 : ac.eval (.tmp 147) = (.bool true) := hw 29 rfl
                        clear hd hz hf hw
                        simp only [Region.wanted, if_true, Oper.wp, execOp, resolve, List.map_toArray, List.map_cons, List.map_nil, Option.map_some, Option.map_none, e0]
                        go_simp
                        exact hK _ _ rfl (Same.refl _ _)
                      · intro ac wc hs hd hz hf hw K hK
                        have eg : ac.eval (.tmp 148) = .bool true := hw 30 rfl
                        refine run_wanted (j := 30) (d := 148) (b := true) rfl rfl hz (of_decide_eq_true rfl) eg ?_
                        clear eg
                        have e0 : ac.eval (.tmp 11) = (.pointer (some ⟨g5, 0, none⟩)) := hf 11 rfl
                        have m0 : wc.cell? ⟨g5, 0, none⟩ = some (.int .i64 Qv.kind) := hs.cell (p := ⟨g5, 0, none⟩) trivial q0
                        have m1 : wc.cell? ⟨g5, 1, none⟩ = some (.int .i64 Qv.n) := hs.cell (p := ⟨g5, 1, none⟩) trivial q1
                        have m2 : wc.cell? ⟨g5, 2, none⟩ = some (.string (str Qv.s)) := hs.cell (p := ⟨g5, 2, none⟩) trivial q2
                        clear hd hz hf hw
                        simp only [Oper.wp, execOp, resolve, List.map_toArray, List.map_cons, List.map_nil, Option.map_some, Option.map_none, e0]
                        go_simp
                        exact hK _ _ rfl (Same.refl _ _)
                      · intro ac wc hs hd hz hf hw K hK
                        have eg : ac.eval (.tmp 148) = .bool true := hw 30 rfl
                        refine run_wanted (j := 30) (d := 148) (b := true) rfl rfl hz (of_decide_eq_true rfl) eg ?_
                        clear eg
                        have e0 : ac.eval (.tmp 149) = (valV Qv) := hw 31 rfl
                        clear hd hz hf hw
                        simp only [Oper.wp, execOp, resolve, List.map_toArray, List.map_cons, List.map_nil, Option.map_some, Option.map_none, e0]
                        go_simp
                        refine (gQ _).mono ?_
                        rintro e wd ⟨rfl, hs2⟩
                        exact hK _ _ rfl hs2
                      · intro ac wc hs hd hz hf hw K hK
                        have eg : ac.eval (.tmp 148) = .bool true := hw 30 rfl
                        refine run_wanted (j := 30) (d := 148) (b := true) rfl rfl hz (of_decide_eq_true rfl) eg ?_
                        clear eg
                        have e0 : ac.eval (.tmp 3) = (.pointer (some ⟨w.heap.size, 0, none⟩)) := hf 3 rfl
                        have m0 : wc.cell? ⟨w.heap.size, 0, none⟩ = some (.int .i64 a.kind) := hs.cell (p := ⟨w.heap.size, 0, none⟩) trivial a0
                        have m1 : wc.cell? ⟨w.heap.size, 1, none⟩ = some (.int .i64 a.n) := hs.cell (p := ⟨w.heap.size, 1, none⟩) trivial a1
                        have m2 : wc.cell? ⟨w.heap.size, 2, none⟩ = some (.string (str a.s)) := hs.cell (p := ⟨w.heap.size, 2, none⟩) trivial a2
                        clear hd hz hf hw
                        simp only [Oper.wp, execOp, resolve, List.map_toArray, List.map_cons, List.map_nil, Option.map_some, Option.map_none, e0]
                        go_simp
                        exact hK _ _ rfl (Same.refl _ _)
                      · intro ac wc hs hd hz hf hw K hK
                        have eg : ac.eval (.tmp 148) = .bool true := hw 30 rfl
                        refine run_wanted (j := 30) (d := 148) (b := true) rfl rfl hz (of_decide_eq_true rfl) eg ?_
                        clear eg
                        have e0 : ac.eval (.tmp 4) = (.pointer (some ⟨w.heap.size + 1, 0, none⟩)) := hf 4 rfl
                        have m0 : wc.cell? ⟨w.heap.size + 1, 0, none⟩ = some (.int .i64 b.kind) := hs.cell (p := ⟨w.heap.size + 1, 0, none⟩) trivial b0
                        have m1 : wc.cell? ⟨w.heap.size + 1, 1, none⟩ = some (.int .i64 b.n) := hs.cell (p := ⟨w.heap.size + 1, 1, none⟩) trivial b1
                        have m2 : wc.cell? ⟨w.heap.size + 1, 2, none⟩ = some (.string (str b.s)) := hs.cell (p := ⟨w.heap.size + 1, 2, none⟩) trivial b2
                        clear hd hz hf hw
                        simp only [Oper.wp, execOp, resolve, List.map_toArray, List.map_cons, List.map_nil, Option.map_some, Option.map_none, e0]
                        go_simp
                        exact hK _ _ rfl (Same.refl _ _)
                      · intro ac wc hs hd hz hf hw K hK
                        have eg : ac.eval (.tmp 148) = .bool true := hw 30 rfl
                        refine run_wanted (j := 30) (d := 148) (b := true) rfl rfl hz (of_decide_eq_true rfl) eg ?_
                        clear eg
                        have e0 : ac.eval (.tmp 151) = (valV a) := hw 33 rfl
                        have e1 : ac.eval (.tmp 152) = (valV b) := hw 34 rfl
                        clear hd hz hf hw
                        simp only [Oper.wp, execOp, resolve, List.map_toArray, List.map_cons, List.map_nil, Option.map_some, Option.map_none, e0, e1]
                        go_simp
                        exact hK _ _ rfl (Same.refl _ _)
                      · intro ac wc hs hd hz hf hw K hK
                        have eg : ac.eval (.tmp 148) = .bool true := hw 30 rfl
                        refine run_wanted (j := 30) (d := 148) (b := true) rfl rfl hz (of_decide_eq_true rfl) eg ?_
                        clear eg
                        have e0 : ac.eval (.tmp 150) = (.bool true) := hw 32 rfl
                        have e1 : ac.eval (.tmp 153) = (.bool true) := hw 35 rfl
                        clear hd hz hf hw
                        simp only [Oper.wp, execOp, resolve, List.map_toArray, List.map_cons, List.map_nil, Option.map_some, Option.map_none, e0, e1]
                        go_simp
                        exact hK _ _ rfl (Same.refl _ _)
                      · intro ac wc hs hd hz hf hw K hK
                        have e0 : ac.eval (.tmp 148) = (.bool true) := hw 30 rfl
                        have e1 : ac.eval (.tmp 154) = (.bool true) := hw 36 rfl
                        clear hd hz hf hw
                        simp only [Region.wanted, if_true, Oper.wp, execOp, resolve, List.map_toArray, List.map_cons, List.map_nil, Option.map_some, Option.map_none, e0, e1]
                        go_simp
                        exact hK _ _ rfl (Same.refl _ _)
                      · intro ac wc hs hd hz hf hw K hK
                        have e0 : ac.eval (.tmp 155) = (.bool true) := hw 37 rfl
                        clear hd hz hf hw
                        simp only [Region.wanted, if_true, Oper.wp, execOp, resolve, List.map_toArray, List.map_cons, List.map_nil, Option.map_some, Option.map_none, e0]
                        go_simp
                        exact hK _ _ rfl (Same.refl _ _)
                    · intro wR hsR
                      simp only [putAll, Act.put, List.setIfInBounds_toArray, List.set_cons_succ, List.set_cons_zero]
                      go_wp2
                      go_ret
                      exact ⟨rfl, HS7.out.trans hsR⟩
                  · rw [hl] at gL
                    rw [hq] at gQ
                    rw [ho] at gO
                    rw [hy] at gY
                    have qab := val_runeq a b
                    rw [hab] at qab
                    clear hl hq ho hy hab
                    go_wp2
                    refine wp_region_eq_lit (vs := [(valV Lv), (valV Lv), (.bool true), (.bool true), (valV Qv), (.bool false), (valV Ov), (.bool true), (.bool true), (.bool true), (.bool true), (valV Yv), (.bool false), (valV Lv), (.bool false), (.bool false), (valV Qv), (.bool false), (.bool false), (.bool true), (.bool true), (.bool true), (valV Lv), (.bool false), (.bool false), undef, undef, (.bool false), (.bool true), (.bool true), (.bool true), (valV Qv), (.bool false), (valV a), (valV b), (.bool false), (.bool true), (.bool true), (.bool true)]) (by kernel_rfl) (by kernel_rfl) rfl rfl ?_ ?_
                    · refine ⟨?_, ?_, ?_, ?_, ?_, ?_, ?_, ?_, ?_, ?_, ?_, ?_, ?_, ?_, ?_, ?_, ?_, ?_, ?_, ?_, ?_, ?_, ?_, ?_, ?_, ?_, ?_, ?_, ?_, ?_, ?_, ?_, ?_, ?_, ?_, ?_, ?_, ?_, ?_, trivial⟩
                      · intro ac wc hs hd hz hf hw K hK
                        have e0 : ac.eval (.tmp 7) = (.pointer (some ⟨g3, 0, none⟩)) := hf 7 rfl
                        have m0 : wc.cell? ⟨g3, 0, none⟩ = some (.int .i64 Lv.kind) := hs.cell (p := ⟨g3, 0, none⟩) trivial l0
                        have m1 : wc.cell? ⟨g3, 1, none⟩ = some (.int .i64 Lv.n) := hs.cell (p := ⟨g3, 1, none⟩) trivial l1
                        have m2 : wc.cell? ⟨g3, 2, none⟩ = some (.string (str Lv.s)) := hs.cell (p := ⟨g3, 2, none⟩) trivial l2
                        clear hd hz hf hw
                        simp only [Region.wanted, if_true, Oper.wp, execOp, resolve, List.map_toArray, List.map_cons, List.map_nil, Option.map_some, Option.map_none, e0]
                        go_simp
                        exact hK _ _ rfl (Same.refl _ _)
                      · intro ac wc hs hd hz hf hw K hK
                        have e0 : ac.eval (.tmp 9) = (.pointer (some ⟨g4, 0, none⟩)) := hf 9 rfl
                        have m0 : wc.cell? ⟨g4, 0, none⟩ = some (.int .i64 Lv.kind) := hs.cell (p := ⟨g4, 0, none⟩) trivial m0
                        have m1 : wc.cell? ⟨g4, 1, none⟩ = some (.int .i64 Lv.n) := hs.cell (p := ⟨g4, 1, none⟩) trivial m1
                        have m2 : wc.cell? ⟨g4, 2, none⟩ = some (.string (str Lv.s)) := hs.cell (p := ⟨g4, 2, none⟩) trivial m2
                        clear hd hz hf hw
                        simp only [Region.wanted, if_true, Oper.wp, execOp, resolve, List.map_toArray, List.map_cons, List.map_nil, Option.map_some, Option.map_none, e0]
                        go_simp
                        exact hK _ _ rfl (Same.refl _ _)
                      · intro ac wc hs hd hz hf hw K hK
                        have e0 : ac.eval (.tmp 118) = (valV Lv) := hw 0 rfl
                        have e1 : ac.eval (.tmp 119) = (valV Lv) := hw 1 rfl
                        clear hd hz hf hw
                        simp only [Region.wanted, if_true, Oper.wp, execOp, resolve, List.map_toArray, List.map_cons, List.map_nil, Option.map_some, Option.map_none, e0, e1]
                        go_simp
                        exact hK _ _ rfl (Same.refl _ _)
                      · intro ac wc hs hd hz hf hw K hK
                        have e0 : ac.eval (.tmp 120) = (.bool true) := hw 2 rfl
                        clear hd hz hf hw
                        simp only [Region.wanted, if_true, Oper.wp, execOp, resolve, List.map_toArray, List.map_cons, List.map_nil, Option.map_some, Option.map_none, e0]
                        go_simp
                        exact hK _ _ rfl (Same.refl _ _)
                      · intro ac wc hs hd hz hf hw K hK
                        have eg : ac.eval (.tmp 121) = .bool true := hw 3 rfl
                        refine run_wanted (j := 3) (d := 121) (b := true) rfl rfl hz (of_decide_eq_true rfl) eg ?_
                        clear eg
                        have e0 : ac.eval (.tmp 11) = (.pointer (some ⟨g5, 0, none⟩)) := hf 11 rfl
                        have m0 : wc.cell? ⟨g5, 0, none⟩ = some (.int .i64 Qv.kind) := hs.cell (p := ⟨g5, 0, none⟩) trivial q0
                        have m1 : wc.cell? ⟨g5, 1, none⟩ = some (.int .i64 Qv.n) := hs.cell (p := ⟨g5, 1, none⟩) trivial q1
                        have m2 : wc.cell? ⟨g5, 2, none⟩ = some (.string (str Qv.s)) := hs.cell (p := ⟨g5, 2, none⟩) trivial q2
                        clear hd hz hf hw
                        simp only [Oper.wp, execOp, resolve, List.map_toArray, List.map_cons, List.map_nil, Option.map_some, Option.map_none, e0]
                        go_simp
                        exact hK _ _ rfl (Same.refl _ _)
                      · intro ac wc hs hd hz hf hw K hK
                        have eg : ac.eval (.tmp 121) = .bool true := hw 3 rfl
                        refine run_wanted (j := 3) (d := 121) (b := true) rfl rfl hz (of_decide_eq_true rfl) eg ?_
                        clear eg
                        have e0 : ac.eval (.tmp 122) = (valV Qv) := hw 4 rfl
                        clear hd hz hf hw
                        simp only [Oper.wp, execOp, resolve, List.map_toArray, List.map_cons, List.map_nil, Option.map_some, Option.map_none, e0]
                        go_simp
                        refine (gQ _).mono ?_
                        rintro e wd ⟨rfl, hs2⟩
                        exact hK _ _ rfl hs2
                      · intro ac wc hs hd hz hf hw K hK
                        have eg : ac.eval (.tmp 121) = .bool true := hw 3 rfl
                        refine run_wanted (j := 3) (d := 121) (b := true) rfl rfl hz (of_decide_eq_true rfl) eg ?_
                        clear eg
                        have e0 : ac.eval (.tmp 13) = (.pointer (some ⟨g6, 0, none⟩)) := hf 13 rfl
                        have m0 : wc.cell? ⟨g6, 0, none⟩ = some (.int .i64 Ov.kind) := hs.cell (p := ⟨g6, 0, none⟩) trivial o0
                        have m1 : wc.cell? ⟨g6, 1, none⟩ = some (.int .i64 Ov.n) := hs.cell (p := ⟨g6, 1, none⟩) trivial o1
                        have m2 : wc.cell? ⟨g6, 2, none⟩ = some (.string (str Ov.s)) := hs.cell (p := ⟨g6, 2, none⟩) trivial o2
                        clear hd hz hf hw
                        simp only [Oper.wp, execOp, resolve, List.map_toArray, List.map_cons, List.map_nil, Option.map_some, Option.map_none, e0]
                        go_simp
                        exact hK _ _ rfl (Same.refl _ _)
                      · intro ac wc hs hd hz hf hw K hK
                        have eg : ac.eval (.tmp 121) = .bool true := hw 3 rfl
                        refine run_wanted (j := 3) (d := 121) (b := true) rfl rfl hz (of_decide_eq_true rfl) eg ?_
                        clear eg
                        have e0 : ac.eval (.tmp 124) = (valV Ov) := hw 6 rfl
                        clear hd hz hf hw
                        simp only [Oper.wp, execOp, resolve, List.map_toArray, List.map_cons, List.map_nil, Option.map_some, Option.map_none, e0]
                        go_simp
                        refine (gO _).mono ?_
                        rintro e wd ⟨rfl, hs2⟩
                        exact hK _ _ rfl hs2
                      · intro ac wc hs hd hz hf hw K hK
                        have eg : ac.eval (.tmp 121) = .bool true := hw 3 rfl
                        refine run_wanted (j := 3) (d := 121) (b := true) rfl rfl hz (of_decide_eq_true rfl) eg ?_
                        clear eg
                        have e0 : ac.eval (.tmp 123) = (.bool false) := hw 5 rfl
                        have e1 : ac.eval (.tmp 125) = (.bool true) := hw 7 rfl
                        clear hd hz hf hw
                        simp only [Oper.wp, execOp, resolve, List.map_toArray, List.map_cons, List.map_nil, Option.map_some, Option.map_none, e0, e1]
                        go_simp
                        exact hK _ _ rfl (Same.refl _ _)
                      · intro ac wc hs hd hz hf hw K hK
                        have e0 : ac.eval (.tmp 121) = (.bool true) := hw 3 rfl
                        have e1 : ac.eval (.tmp 126) = (.bool true) := hw 8 rfl
                        clear hd hz hf hw
                        simp only [Region.wanted, if_true, Oper.wp, execOp, resolve, List.map_toArray, List.map_cons, List.map_nil, Option.map_some, Option.map_none, e0, e1]
                        go_simp
                        exact hK _ _ rfl (Same.refl _ _)
                      · intro ac wc hs hd hz hf hw K hK
                        have e0 : ac.eval (.tmp 127) = (.bool true) := hw 9 rfl
                        clear hd hz hf hw
                        simp only [Region.wanted, if_true, Oper.wp, execOp, resolve, List.map_toArray, List.map_cons, List.map_nil, Option.map_some, Option.map_none, e0]
                        go_simp
                        exact hK _ _ rfl (Same.refl _ _)
                      · intro ac wc hs hd hz hf hw K hK
                        have eg : ac.eval (.tmp 128) = .bool true := hw 10 rfl
                        refine run_wanted (j := 10) (d := 128) (b := true) rfl rfl hz (of_decide_eq_true rfl) eg ?_
                        clear eg
                        have e0 : ac.eval (.tmp 15) = (.pointer (some ⟨g7, 0, none⟩)) := hf 15 rfl
                        have m0 : wc.cell? ⟨g7, 0, none⟩ = some (.int .i64 Yv.kind) := hs.cell (p := ⟨g7, 0, none⟩) trivial y0
                        have m1 : wc.cell? ⟨g7, 1, none⟩ = some (.int .i64 Yv.n) := hs.cell (p := ⟨g7, 1, none⟩) trivial y1
                        have m2 : wc.cell? ⟨g7, 2, none⟩ = some (.string (str Yv.s)) := hs.cell (p := ⟨g7, 2, none⟩) trivial y2
                        clear hd hz hf hw
                        simp only [Oper.wp, execOp, resolve, List.map_toArray, List.map_cons, List.map_nil, Option.map_some, Option.map_none, e0]
                        go_simp
                        exact hK _ _ rfl (Same.refl _ _)
                      · intro ac wc hs hd hz hf hw K hK
                        have eg : ac.eval (.tmp 128) = .bool true := hw 10 rfl
                        refine run_wanted (j := 10) (d := 128) (b := true) rfl rfl hz (of_decide_eq_true rfl) eg ?_
                        clear eg
                        have e0 : ac.eval (.tmp 129) = (valV Yv) := hw 11 rfl
                        clear hd hz hf hw
                        simp only [Oper.wp, execOp, resolve, List.map_toArray, List.map_cons, List.map_nil, Option.map_some, Option.map_none, e0]
                        go_simp
                        refine (gY _).mono ?_
                        rintro e wd ⟨rfl, hs2⟩
                        exact hK _ _ rfl hs2
                      · intro ac wc hs hd hz hf hw K hK
                        have eg : ac.eval (.tmp 128) = .bool true := hw 10 rfl
                        refine run_wanted (j := 10) (d := 128) (b := true) rfl rfl hz (of_decide_eq_true rfl) eg ?_
                        clear eg
                        have e0 : ac.eval (.tmp 7) = (.pointer (some ⟨g3, 0, none⟩)) := hf 7 rfl
                        have m0 : wc.cell? ⟨g3, 0, none⟩ = some (.int .i64 Lv.kind) := hs.cell (p := ⟨g3, 0, none⟩) trivial l0
                        have m1 : wc.cell? ⟨g3, 1, none⟩ = some (.int .i64 Lv.n) := hs.cell (p := ⟨g3, 1, none⟩) trivial l1
                        have m2 : wc.cell? ⟨g3, 2, none⟩ = some (.string (str Lv.s)) := hs.cell (p := ⟨g3, 2, none⟩) trivial l2
                        clear hd hz hf hw
                        simp only [Oper.wp, execOp, resolve, List.map_toArray, List.map_cons, List.map_nil, Option.map_some, Option.map_none, e0]
                        go_simp
                        exact hK _ _ rfl (Same.refl _ _)
                      · intro ac wc hs hd hz hf hw K hK
                        have eg : ac.eval (.tmp 128) = .bool true := hw 10 rfl
                        refine run_wanted (j := 10) (d := 128) (b := true) rfl rfl hz (of_decide_eq_true rfl) eg ?_
                        clear eg
                        have e0 : ac.eval (.tmp 131) = (valV Lv) := hw 13 rfl
                        clear hd hz hf hw
                        simp only [Oper.wp, execOp, resolve, List.map_toArray, List.map_cons, List.map_nil, Option.map_some, Option.map_none, e0]
                        go_simp
                        refine (gL _).mono ?_
                        rintro e wd ⟨rfl, hs2⟩
                        exact hK _ _ rfl hs2
                      · intro ac wc hs hd hz hf hw K hK
                        have eg : ac.eval (.tmp 128) = .bool true := hw 10 rfl
                        refine run_wanted (j := 10) (d := 128) (b := true) rfl rfl hz (of_decide_eq_true rfl) eg ?_
                        clear eg
                        have e0 : ac.eval (.tmp 132) = (.bool false) := hw 14 rfl
                        clear hd hz hf hw
                        simp only [Oper.wp, execOp, resolve, List.map_toArray, List.map_cons, List.map_nil, Option.map_some, Option.map_none, e0]
                        go_simp
                        exact hK _ _ rfl (Same.refl _ _)
                      · intro ac wc hs hd hz hf hw K hK
                        have eg : ac.eval (.tmp 133) = .bool false := hw 15 rfl
                        refine run_wanted (j := 15) (d := 133) (b := false) rfl rfl hz (of_decide_eq_true rfl) eg ?_
                        clear eg
                        have e0 : ac.eval (.tmp 11) = (.pointer (some ⟨g5, 0, none⟩)) := hf 11 rfl
                        have m0 : wc.cell? ⟨g5, 0, none⟩ = some (.int .i64 Qv.kind) := hs.cell (p := ⟨g5, 0, none⟩) trivial q0
                        have m1 : wc.cell? ⟨g5, 1, none⟩ = some (.int .i64 Qv.n) := hs.cell (p := ⟨g5, 1, none⟩) trivial q1
                        have m2 : wc.cell? ⟨g5, 2, none⟩ = some (.string (str Qv.s)) := hs.cell (p := ⟨g5, 2, none⟩) trivial q2
                        clear hd hz hf hw
                        simp only [Oper.wp, execOp, resolve, List.map_toArray, List.map_cons, List.map_nil, Option.map_some, Option.map_none, e0]
                        go_simp
                        exact hK _ _ rfl (Same.refl _ _)
                      · intro ac wc hs hd hz hf hw K hK
                        have eg : ac.eval (.tmp 133) = .bool false := hw 15 rfl
                        refine run_wanted (j := 15) (d := 133) (b := false) rfl rfl hz (of_decide_eq_true rfl) eg ?_
                        clear eg
                        have e0 : ac.eval (.tmp 134) = (valV Qv) := hw 16 rfl
                        clear hd hz hf hw
                        simp only [Oper.wp, execOp, resolve, List.map_toArray, List.map_cons, List.map_nil, Option.map_some, Option.map_none, e0]
                        go_simp
                        refine (gQ _).mono ?_
                        rintro e wd ⟨rfl, hs2⟩
                        exact hK _ _ rfl hs2
                      · intro ac wc hs hd hz hf hw K hK
                        have eg : ac.eval (.tmp 128) = .bool true := hw 10 rfl
                        refine run_wanted (j := 10) (d := 128) (b := true) rfl rfl hz (of_decide_eq_true rfl) eg ?_
                        clear eg
                        have e0 : ac.eval (.tmp 133) = (.bool false) := hw 15 rfl
                        have e1 : ac.eval (.tmp 135) = (.bool false) := hw 17 rfl
                        clear hd hz hf hw
                        simp only [Oper.wp, execOp, resolve, List.map_toArray, List.map_cons, List.map_nil, Option.map_some, Option.map_none, e0, e1]
                        go_simp
                        exact hK _ _ rfl (Same.refl _ _)
                      · intro ac wc hs hd hz hf hw K hK
                        have eg : ac.eval (.tmp 128) = .bool true := hw 10 rfl
                        refine run_wanted (j := 10) (d := 128) (b := true) rfl rfl hz (of_decide_eq_true rfl) eg ?_
                        clear eg
                        have e0 : ac.eval (.tmp 130) = (.bool false) := hw 12 rfl
                        have e1 : ac.eval (.tmp 136) = (.bool false) := hw 18 rfl
                        clear hd hz hf hw
                        simp only [Oper.wp, execOp, resolve, List.map_toArray, List.map_cons, List.map_nil, Option.map_some, Option.map_none, e0, e1]
                        go_simp
                        exact hK _ _ rfl (Same.refl _ _)
                      · intro ac wc hs hd hz hf hw K hK
                        have e0 : ac.eval (.tmp 128) = (.bool true) := hw 10 rfl
                        have e1 : ac.eval (.tmp 137) = (.bool true) := hw 19 rfl
                        clear hd hz hf hw
                        simp only [Region.wanted, if_true, Oper.wp, execOp, resolve, List.map_toArray, List.map_cons, List.map_nil, Option.map_some, Option.map_none, e0, e1]
                        go_simp
                        exact hK _ _ rfl (Same.refl _ _)
                      · intro ac wc hs hd hz hf hw K hK
                        have e0 : ac.eval (.tmp 138) = (.bool true) := hw 20 rfl
                        clear hd hz hf hw
                        simp only [Region.wanted, if_true, Oper.wp, execOp, resolve, List.map_toArray, List.map_cons, List.map_nil, Option.map_some, Option.map_none, e0]
                        go_simp
                        exact hK _ _ rfl (Same.refl _ _)
                      · intro ac wc hs hd hz hf hw K hK
                        have eg : ac.eval (.tmp 139) = .bool true := hw 21 rfl
                        refine run_wanted (j := 21) (d := 139) (b := true) rfl rfl hz (of_decide_eq_true rfl) eg ?_
                        clear eg
                        have e0 : ac.eval (.tmp 7) = (.pointer (some ⟨g3, 0, none⟩)) := hf 7 rfl
                        have m0 : wc.cell? ⟨g3, 0, none⟩ = some (.int .i64 Lv.kind) := hs.cell (p := ⟨g3, 0, none⟩) trivial l0
                        have m1 : wc.cell? ⟨g3, 1, none⟩ = some (.int .i64 Lv.n) := hs.cell (p := ⟨g3, 1, none⟩) trivial l1
                        have m2 : wc.cell? ⟨g3, 2, none⟩ = some (.string (str Lv.s)) := hs.cell (p := ⟨g3, 2, none⟩) trivial l2
                        clear hd hz hf hw
                        simp only [Oper.wp, execOp, resolve, List.map_toArray, List.map_cons, List.map_nil, Option.map_some, Option.map_none, e0]
                        go_simp
                        exact hK _ _ rfl (Same.refl _ _)
                      · intro ac wc hs hd hz hf hw K hK
                        have eg : ac.eval (.tmp 139) = .bool true := hw 21 rfl
                        refine run_wanted (j := 21) (d := 139) (b := true) rfl rfl hz (of_decide_eq_true rfl) eg ?_
                        clear eg
                        have e0 : ac.eval (.tmp 140) = (valV Lv) := hw 22 rfl
                        clear hd hz hf hw
                        simp only [Oper.wp, execOp, resolve, List.map_toArray, List.map_cons, List.map_nil, Option.map_some, Option.map_none, e0]
                        go_simp
                        refine (gL _).mono ?_
                        rintro e wd ⟨rfl, hs2⟩
                        exact hK _ _ rfl hs2
                      · intro ac wc hs hd hz hf hw K hK
                        have eg : ac.eval (.tmp 139) = .bool true := hw 21 rfl
                        refine run_wanted (j := 21) (d := 139) (b := true) rfl rfl hz (of_decide_eq_true rfl) eg ?_
                        clear eg
                        have e0 : ac.eval (.tmp 141) = (.bool false) := hw 23 rfl
                        clear hd hz hf hw
                        simp only [Oper.wp, execOp, resolve, List.map_toArray, List.map_cons, List.map_nil, Option.map_some, Option.map_none, e0]
                        go_simp
                        exact hK _ _ rfl (Same.refl _ _)
                      · intro ac wc hs hd hz hf hw K hK
                        have eg : ac.eval (.tmp 142) = .bool false := hw 24 rfl
                        refine skip_wanted (j := 24) (d := 142) (b := false) rfl rfl hz (of_decide_eq_true rfl) eg ?_
                        clear eg
                        exact hK _ _ rfl (Same.refl _ _)
                      · intro ac wc hs hd hz hf hw K hK
                        have eg : ac.eval (.tmp 142) = .bool false := hw 24 rfl
                        refine skip_wanted (j := 24) (d := 142) (b := false) rfl rfl hz (of_decide_eq_true rfl) eg ?_
                        clear eg
                        exact hK _ _ rfl (Same.refl _ _)
                      · intro ac wc hs hd hz hf hw K hK
                        have eg : ac.eval (.tmp 139) = .bool true := hw 21 rfl
                        refine run_wanted (j := 21) (d := 139) (b := true) rfl rfl hz (of_decide_eq_true rfl) eg ?_
                        clear eg
                        have e0 : ac.eval (.tmp 142) = (.bool false) := hw 24 rfl
                        have e1 : ac.eval (.tmp 144) = undef := hw 26 rfl
                        clear hd hz hf hw
                        simp only [Oper.wp, execOp, resolve, List.map_toArray, List.map_cons, List.map_nil, Option.map_some, Option.map_none, e0, e1]
                        go_simp
                        exact hK _ _ rfl (Same.refl _ _)
                      · intro ac wc hs hd hz hf hw K hK
                        have eg : ac.eval (.tmp 139) = .bool true := hw 21 rfl
                        refine run_wanted (j := 21) (d := 139) (b := true) rfl rfl hz (of_decide_eq_true rfl) eg ?_
                        clear eg
                        have e0 : ac.eval (.tmp 145) = (.bool false) := hw 27 rfl
                        clear hd hz hf hw
                        simp only [Oper.wp, execOp, resolve, List.map_toArray, List.map_cons, List.map_nil, Option.map_some, Option.map_none, e0]
                        go_simp
                        exact hK _ _ rfl (Same.refl _ _)
                      · intro ac wc hs hd hz hf hw K hK
                        have e0 : ac.eval (.tmp 139) = (.bool true) := hw 21 rfl
                        have e1 : ac.eval (.tmp 146) = (.bool true) := hw 28 rfl
                        clear hd hz hf hw
                        simp only [Region.wanted, if_true, Oper.wp, execOp, resolve, List.map_toArray, List.map_cons, List.map_nil, Option.map_some, Option.map_none, e0, e1]
                        go_simp
                        exact hK _ _ rfl (Same.refl _ _)
                      · intro ac wc hs hd hz hf hw K hK
                        have e0 : ac.eval (.tmp 147) = (.bool true) := hw 29 rfl
                        clear hd hz hf hw
                        simp only [Region.wanted, if_true, Oper.wp, execOp, resolve, List.map_toArray, List.map_cons, List.map_nil, Option.map_some, Option.map_none, e0]
                        go_simp
                        exact hK _ _ rfl (Same.refl _ _)
                      · intro ac wc hs hd hz hf hw K hK
                        have eg : ac.eval (.tmp 148) = .bool true := hw 30 rfl
                        refine run_wanted (j := 30) (d := 148) (b := true) rfl rfl hz (of_decide_eq_true rfl) eg ?_
                        clear eg
                        have e0 : ac.eval (.tmp 11) = (.pointer (some ⟨g5, 0, none⟩)) := hf 11 rfl
                        have m0 : wc.cell? ⟨g5, 0, none⟩ = some (.int .i64 Qv.kind) := hs.cell (p := ⟨g5, 0, none⟩) trivial q0
                        have m1 : wc.cell? ⟨g5, 1, none⟩ = some (.int .i64 Qv.n) := hs.cell (p := ⟨g5, 1, none⟩) trivial q1
                        have m2 : wc.cell? ⟨g5, 2, none⟩ = some (.string (str Qv.s)) := hs.cell (p := ⟨g5, 2, none⟩) trivial q2
                        clear hd hz hf hw
                        simp only [Oper.wp, execOp, resolve, List.map_toArray, List.map_cons, List.map_nil, Option.map_some, Option.map_none, e0]
                        go_simp
                        exact hK _ _ rfl (Same.refl _ _)
                      · intro ac wc hs hd hz hf hw K hK
                        have eg : ac.eval (.tmp 148) = .bool true := hw 30 rfl
                        refine run_wanted (j := 30) (d := 148) (b := true) rfl rfl hz (of_decide_eq_true rfl) eg ?_
                        clear eg
                        have e0 : ac.eval (.tmp 149) = (valV Qv) := hw 31 rfl
                        clear hd hz hf hw
                        simp only [Oper.wp, execOp, resolve, List.map_toArray, List.map_cons, List.map_nil, Option.map_some, Option.map_none, e0]
                        go_simp
                        refine (gQ _).mono ?_
                        rintro e wd ⟨rfl, hs2⟩
                        exact hK _ _ rfl hs2
                      · intro ac wc hs hd hz hf hw K hK
                        have eg : ac.eval (.tmp 148) = .bool true := hw 30 rfl
                        refine run_wanted (j := 30) (d := 148) (b := true) rfl rfl hz (of_decide_eq_true rfl) eg ?_
                        clear eg
                        have e0 : ac.eval (.tmp 3) = (.pointer (some ⟨w.heap.size, 0, none⟩)) := hf 3 rfl
                        have m0 : wc.cell? ⟨w.heap.size, 0, none⟩ = some (.int .i64 a.kind) := hs.cell (p := ⟨w.heap.size, 0, none⟩) trivial a0
                        have m1 : wc.cell? ⟨w.heap.size, 1, none⟩ = some (.int .i64 a.n) := hs.cell (p := ⟨w.heap.size, 1, none⟩) trivial a1
                        have m2 : wc.cell? ⟨w.heap.size, 2, none⟩ = some (.string (str a.s)) := hs.cell (p := ⟨w.heap.size, 2, none⟩) trivial a2
                        clear hd hz hf hw
                        simp only [Oper.wp, execOp, resolve, List.map_toArray, List.map_cons, List.map_nil, Option.map_some, Option.map_none, e0]
                        go_simp
                        exact hK _ _ rfl (Same.refl _ _)
                      · intro ac wc hs hd hz hf hw K hK
                        have eg : ac.eval (.tmp 148) = .bool true := hw 30 rfl
                        refine run_wanted (j := 30) (d := 148) (b := true) rfl rfl hz (of_decide_eq_true rfl) eg ?_
                        clear eg
                        have e0 : ac.eval (.tmp 4) = (.pointer (some ⟨w.heap.size + 1, 0, none⟩)) := hf 4 rfl
                        have m0 : wc.cell? ⟨w.heap.size + 1, 0, none⟩ = some (.int .i64 b.kind) := hs.cell (p := ⟨w.heap.size + 1, 0, none⟩) trivial b0
                        have m1 : wc.cell? ⟨w.heap.size + 1, 1, none⟩ = some (.int .i64 b.n) := hs.cell (p := ⟨w.heap.size + 1, 1, none⟩) trivial b1
                        have m2 : wc.cell? ⟨w.heap.size + 1, 2, none⟩ = some (.string (str b.s)) := hs.cell (p := ⟨w.heap.size + 1, 2, none⟩) trivial b2
                        clear hd hz hf hw
                        simp only [Oper.wp, execOp, resolve, List.map_toArray, List.map_cons, List.map_nil, Option.map_some, Option.map_none, e0]
                        go_simp
                        exact hK _ _ rfl (Same.refl _ _)
                      · intro ac wc hs hd hz hf hw K hK
                        have eg : ac.eval (.tmp 148) = .bool true := hw 30 rfl
                        refine run_wanted (j := 30) (d := 148) (b := true) rfl rfl hz (of_decide_eq_true rfl) eg ?_
                        clear eg
                        have e0 : ac.eval (.tmp 151) = (valV a) := hw 33 rfl
                        have e1 : ac.eval (.tmp 152) = (valV b) := hw 34 rfl
                        clear hd hz hf hw
                        simp only [Oper.wp, execOp, resolve, List.map_toArray, List.map_cons, List.map_nil, Option.map_some, Option.map_none, e0, e1]
                        go_simp
                        exact hK _ _ rfl (Same.refl _ _)
                      · intro ac wc hs hd hz hf hw K hK
                        have eg : ac.eval (.tmp 148) = .bool true := hw 30 rfl
                        refine run_wanted (j := 30) (d := 148) (b := true) rfl rfl hz (of_decide_eq_true rfl) eg ?_
                        clear eg
                        have e0 : ac.eval (.tmp 150) = (.bool false) := hw 32 rfl
                        have e1 : ac.eval (.tmp 153) = (.bool false) := hw 35 rfl
                        clear hd hz hf hw
                        simp only [Oper.wp, execOp, resolve, List.map_toArray, List.map_cons, List.map_nil, Option.map_some, Option.map_none, e0, e1]
                        go_simp
                        exact hK _ _ rfl (Same.refl _ _)
                      · intro ac wc hs hd hz hf hw K hK
                        have e0 : ac.eval (.tmp 148) = (.bool true) := hw 30 rfl
                        have e1 : ac.eval (.tmp 154) = (.bool true) := hw 36 rfl
                        clear hd hz hf hw
                        simp only [Region.wanted, if_true, Oper.wp, execOp, resolve, List.map_toArray, List.map_cons, List.map_nil, Option.map_some, Option.map_none, e0, e1]
                        go_simp
                        exact hK _ _ rfl (Same.refl _ _)
                      · intro ac wc hs hd hz hf hw K hK
                        have e0 : ac.eval (.tmp 155) = (.bool true) := hw 37 rfl
                        clear hd hz hf hw
                        simp only [Region.wanted, if_true, Oper.wp, execOp, resolve, List.map_toArray, List.map_cons, List.map_nil, Option.map_some, Option.map_none, e0]
                        go_simp
                        exact hK _ _ rfl (Same.refl _ _)
                    · intro wR hsR
                      simp only [putAll, Act.put, List.setIfInBounds_toArray, List.set_cons_succ, List.set_cons_zero]
                      go_wp2
                      go_ret
                      exact ⟨rfl, HS7.out.trans hsR⟩
end Go.Proofs.Ytakbikibahhepaa
