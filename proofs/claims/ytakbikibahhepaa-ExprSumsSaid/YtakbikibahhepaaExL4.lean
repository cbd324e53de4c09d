/-
  The walk of ExprSums.
-/
import Derived.Test.YtakbikibahhepaaExL3
set_option linter.unusedSimpArgs false
set_option linter.unusedVariables false
namespace Go.Proofs.Ytakbikibahhepaa
open Go.RowKit

set_option maxRecDepth 100000 in
set_option maxHeartbeats 16000000 in
theorem sums_walk (a b : Int) (ha : i64B a = true) (hb : i64B b = true) (w : World) :
    Calls Try.prog 7 #[.int .i64 a, .int .i64 b] w (BoolP true w) := by
  have hF := sum_facts a b ha hb
  have hBk := Lib.hid (fun h0 => sum_back ha hb h0)
  have evS := fun (W : World) (v rv t : Value) (h1 : TabVal W v) (h2 : TreeVal W t (cmpE [43] ⟨2, a, []⟩ ⟨2, b, []⟩)) (h3 : VaR W (fun _ => True) rv zeros) => evalw_any v rv t zeros (cmpE [43] ⟨2, a, []⟩ ⟨2, b, []⟩) W h1 h3 h2 (by simp [cmpE, negE, Ex.size, sizeL]) (.two _ (.leaf _ _ ha) (.leaf _ _ hb)) zeros_i64
  obtain ⟨S, hS⟩ : ∃ X, evalTF cols3 zeros (cmpE [43] ⟨2, a, []⟩ ⟨2, b, []⟩) = X := ⟨_, rfl⟩
  rw [hS] at evS hF
  have hSi : i64B S.1.n = true := by rw [← hS]; unfold evalTF; split; rfl; split; exact eval_i64 zeros_i64 _ (.two _ (.leaf _ _ ha) (.leaf _ _ hb)); rfl
  have evD := fun (W : World) (v rv t : Value) (h1 : TabVal W v) (h2 : TreeVal W t (cmpE [45] S.1 ⟨2, b, []⟩)) (h3 : VaR W (fun _ => True) rv zeros) => evalw_any v rv t zeros (cmpE [45] S.1 ⟨2, b, []⟩) W h1 h3 h2 (by simp [cmpE, negE, Ex.size, sizeL]) (.two _ (.leaf _ _ hSi) (.leaf _ _ hb)) zeros_i64
  obtain ⟨D, hD⟩ : ∃ X, evalTF cols3 zeros (cmpE [45] S.1 ⟨2, b, []⟩) = X := ⟨_, rfl⟩
  rw [hD] at evD hF
  have evQ := fun (W : World) (v rv t : Value) (h1 : TabVal W v) (h2 : TreeVal W t (cmpE [47] ⟨2, a, []⟩ ⟨2, b, []⟩)) (h3 : VaR W (fun _ => True) rv zeros) => evalw_any v rv t zeros (cmpE [47] ⟨2, a, []⟩ ⟨2, b, []⟩) W h1 h3 h2 (by simp [cmpE, negE, Ex.size, sizeL]) (.two _ (.leaf _ _ ha) (.leaf _ _ hb)) zeros_i64
  obtain ⟨Q, hQ⟩ : ∃ X, evalTF cols3 zeros (cmpE [47] ⟨2, a, []⟩ ⟨2, b, []⟩) = X := ⟨_, rfl⟩
  rw [hQ] at evQ hF
  have evR := fun (W : World) (v rv t : Value) (h1 : TabVal W v) (h2 : TreeVal W t (cmpE [37] ⟨2, a, []⟩ ⟨2, b, []⟩)) (h3 : VaR W (fun _ => True) rv zeros) => evalw_any v rv t zeros (cmpE [37] ⟨2, a, []⟩ ⟨2, b, []⟩) W h1 h3 h2 (by simp [cmpE, negE, Ex.size, sizeL]) (.two _ (.leaf _ _ ha) (.leaf _ _ hb)) zeros_i64
  obtain ⟨R, hR⟩ : ∃ X, evalTF cols3 zeros (cmpE [37] ⟨2, a, []⟩ ⟨2, b, []⟩) = X := ⟨_, rfl⟩
  rw [hR] at evR hF
  have evN := fun (W : World) (v rv t : Value) (h1 : TabVal W v) (h2 : TreeVal W t (negE ⟨2, a, []⟩)) (h3 : VaR W (fun _ => True) rv zeros) => evalw_any v rv t zeros (negE ⟨2, a, []⟩) W h1 h3 h2 (by simp [cmpE, negE, Ex.size, sizeL]) (.one _ (.leaf _ _ ha)) zeros_i64
  obtain ⟨N, hN⟩ : ∃ X, evalTF cols3 zeros (negE ⟨2, a, []⟩) = X := ⟨_, rfl⟩
  rw [hN] at evN hF
  obtain ⟨X1, hX1⟩ : ∃ X, Ex.mk 1 [] ⟨2, a, []⟩ [] = X := ⟨_, rfl⟩
  obtain ⟨X2, hX2⟩ : ∃ X, Ex.mk 1 [] ⟨2, b, []⟩ [] = X := ⟨_, rfl⟩
  have hl1 : ∀ W, Calls Try.prog 22 #[.agg #[.int .i64 2, .int .i64 a, .string ⟨#[]⟩]] W (fun e w' => e = .returned (exV (.slice none 0 0) X1) ∧ Same (fun _ => True) W w') := fun W => by rw [← hX1]; exact lit_any ⟨2, a, []⟩ W
  have hl2 : ∀ W, Calls Try.prog 22 #[.agg #[.int .i64 2, .int .i64 b, .string ⟨#[]⟩]] W (fun e w' => e = .returned (exV (.slice none 0 0) X2) ∧ Same (fun _ => True) W w') := fun W => by rw [← hX2]; exact lit_any ⟨2, b, []⟩ W
  have hx1 : Hid (∀ W, ExR W (fun _ => True) (.slice none 0 0) X1) := Lib.hid fun W => by rw [← hX1]; exact ExR.leaf _ _ _ _ _
  have hx2 : Hid (∀ W, ExR W (fun _ => True) (.slice none 0 0) X2) := Lib.hid fun W => by rw [← hX2]; exact ExR.leaf _ _ _ _ _
  simp only [cmpE, negE, hX1, hX2] at evS evD evQ evR evN
  have EvS := Lib.hid evS
  have EvD := Lib.hid evD
  have EvQ := Lib.hid evQ
  have EvR := Lib.hid evR
  have EvN := Lib.hid evN
  have HF := Lib.hid hF
  have HAB : Hid ((-9223372036854775808 ≤ a ∧ a ≤ 9223372036854775807) ∧ -9223372036854775808 ≤ b ∧ b ≤ 9223372036854775807) := Lib.hid (by simpa [i64B] using And.intro ha hb)
  clear hF ha hb hX1 hX2 hSi hS evS hD evD hQ evQ hR evR hN evN
  go_enter Try.func7, Try.ntmps7
  go_wp2_with (go_at_call 10; refine stopAt ?_)
  unfold Hid
  refine (begun_any _).mono ?_
  rintro e' w1 ⟨rfl, hS1⟩
  have HS1 := Lib.hid hS1
  clear hS1
  have hmk := make3
  obtain ⟨ZA, hZA⟩ : ∃ Z, Z = ([Val.zero, .zero, .zero].flatMap valCs).toArray := ⟨_, rfl⟩
  rw [← hZA] at hmk
  have HZA := Lib.hid hZA
  clear hZA
  go_wp2_with (go_at_call 22; refine stopAt ?_)
  unfold Hid
  have hrow := VaR.fresh3 w1
  rw [← HZA.out] at hrow
  have hS2 := (Same.refl (fun _ => True) w1).alloc (.cells ZA 23)
  refine (hl1 _).mono ?_
  rintro e' w2 ⟨rfl, hS3⟩
  have Hrow := Lib.hid (RowR.keepAll hrow hS3)
  have HS2 := Lib.hid (HS1.out.trans (hS2.trans hS3))
  generalize hg0 : w1.heap.size = g0 at *
  clear hg0 hrow hS2 hS3 hl1 hmk
  go_wp2_with (go_at_call 22; refine stopAt ?_)
  unfold Hid
  refine (hl2 _).mono ?_
  rintro e' w3 ⟨rfl, hS3⟩
  have HS3 := Lib.hid (HS2.out.trans hS3)
  have hrow := RowR.keepAll Hrow.out hS3
  clear hS3 hl2 Hrow
  go_wp2_with (with_reducible refine stopDst 28 rfl ?_)
  have hSb := ((Same.refl (fun _ => True) w3).alloc (.cells (exCs (.slice none 0 0) X1).toArray 26)).alloc (.cells (exCs (.slice none 0 0) X2).toArray 26)
  have hra := (Row.new w3 26 (exCs (.slice none 0 0) X1)).keep ((Same.refl (fun _ => True) _).alloc (.cells (exCs (.slice none 0 0) X2).toArray 26)) trivial
  have hrb := Row.new (w3.alloc (.cells (exCs (.slice none 0 0) X1).toArray 26)) 26 (exCs (.slice none 0 0) X2)
  rw [World.size_alloc] at hrb
  obtain ⟨W4, hW4⟩ : ∃ W4, W4 = (w3.alloc (.cells (exCs (.slice none 0 0) X1).toArray 26)).alloc (.cells (exCs (.slice none 0 0) X2).toArray 26) := ⟨_, rfl⟩
  have e0 := hW4
  rw [← hW4] at hSb hra hrb
  simp only [exCs] at e0
  rw [← e0]
  have hrow := RowR.keepAll hrow hSb
  have Hrow := Lib.hid hrow
  have HS4 := Lib.hid (HS3.out.trans hSb)
  clear hSb hW4 e0 hrow
  generalize w3.heap.size = p at *
  have a0 : W4.cell? ⟨p, 0, none⟩ = some (.int .i64 X1.kind) := hra.cell 0
  have a1 : W4.cell? ⟨p, 1, none⟩ = some (.string (str X1.s)) := hra.cell 1
  have a2 : W4.cell? ⟨p, 2, none⟩ = some (.int .i64 X1.v.kind) := hra.cell 2
  have a3 : W4.cell? ⟨p, 3, none⟩ = some (.int .i64 X1.v.n) := hra.cell 3
  have a4 : W4.cell? ⟨p, 4, none⟩ = some (.string (str X1.v.s)) := hra.cell 4
  have a5 : W4.cell? ⟨p, 5, none⟩ = some (.slice none 0 0) := hra.cell 5
  have b0 : W4.cell? ⟨p + 1, 0, none⟩ = some (.int .i64 X2.kind) := hrb.cell 0
  have b1 : W4.cell? ⟨p + 1, 1, none⟩ = some (.string (str X2.s)) := hrb.cell 1
  have b2 : W4.cell? ⟨p + 1, 2, none⟩ = some (.int .i64 X2.v.kind) := hrb.cell 2
  have b3 : W4.cell? ⟨p + 1, 3, none⟩ = some (.int .i64 X2.v.n) := hrb.cell 3
  have b4 : W4.cell? ⟨p + 1, 4, none⟩ = some (.string (str X2.v.s)) := hrb.cell 4
  have b5 : W4.cell? ⟨p + 1, 5, none⟩ = some (.slice none 0 0) := hrb.cell 5
  have za := hra.lt
  have zb := hrb.lt
  have Hra := Lib.hid hra
  have Hrb := Lib.hid hrb
  clear hra hrb
  go_upto_region 5 with (fail)
  go_cut [8, 9] from 27 to 36 (fun vA vB wx => ∃ (W5 : World) (g : Nat), W5 = wx ∧ vA = .pointer (some ⟨g, 0, none⟩) ∧ vB = .int .i64 S.2 ∧ W4.heap.size ≤ g ∧ Row W5 g 23 (valCs S.1) ∧ Same (fun _ => True) W4 W5)
  case first =>
    refine wp_region_tail_d (L := [.of .tab, .eq (.slice (some ⟨g0, 0, none⟩) 3 3), .eq (exV (.slice none 0 0) X1), .eq (exV (.slice none 0 0) X2), .of (.exl [X1, X2]), .of (.tree (.mk 3 [43] .zero [X1, X2])), .eq (.tuple #[valV S.1, .int .i64 S.2]), .eq (.tuple #[valV S.1, .int .i64 S.2]), .eq (valV S.1), .eq (.int .i64 S.2), .of (.fresh W4.heap.size 23 (valCs .zero))]) 11 9 (by omega) (by kernel_rfl) (by kernel_rfl) rfl rfl rfl rfl rfl rfl ?_ ?_ ?_
    · refine ⟨?_, ?_, ?_, ?_, ?_, ?_, ?_, ?_, ?_, ?_, ?_, trivial⟩
      · intro ac wc hs hd hz hf hw K hK
        clear hd hz hf hw
        simp only [Region.wanted, if_true, Oper.wp, execOp, resolve, List.map_toArray, List.map_cons, List.map_nil, Option.map_some, Option.map_none]
        go_simp
        refine (table_any _).mono ?_
        rintro e wd ⟨vt, rfl, ht9, hs9⟩
        exact hK _ _ ht9 hs9
      · intro ac wc hs hd hz hf hw K hK
        have e0 : ac.eval (.tmp 5) = (.slice (some ⟨g0, 0, none⟩) 3 3) := hf 5 rfl
        clear hd hz hf hw
        simp only [Region.wanted, if_true, Oper.wp, execOp, resolve, List.map_toArray, List.map_cons, List.map_nil, Option.map_some, Option.map_none, e0]
        go_simp
        exact hK _ _ rfl (Same.refl _ _)
      · intro ac wc hs hd hz hf hw K hK
        have e0 : ac.eval (.tmp 6) = (.pointer (some ⟨p, 0, none⟩)) := hf 6 rfl
        have m0 : wc.cell? ⟨p, 0, none⟩ = some (.int .i64 X1.kind) := hs.cell (p := ⟨p, 0, none⟩) trivial a0
        have m1 : wc.cell? ⟨p, 1, none⟩ = some (.string (str X1.s)) := hs.cell (p := ⟨p, 1, none⟩) trivial a1
        have m2 : wc.cell? ⟨p, 2, none⟩ = some (.int .i64 X1.v.kind) := hs.cell (p := ⟨p, 2, none⟩) trivial a2
        have m3 : wc.cell? ⟨p, 3, none⟩ = some (.int .i64 X1.v.n) := hs.cell (p := ⟨p, 3, none⟩) trivial a3
        have m4 : wc.cell? ⟨p, 4, none⟩ = some (.string (str X1.v.s)) := hs.cell (p := ⟨p, 4, none⟩) trivial a4
        have m5 : wc.cell? ⟨p, 5, none⟩ = some (.slice none 0 0) := hs.cell (p := ⟨p, 5, none⟩) trivial a5
        clear hd hz hf hw
        simp only [Region.wanted, if_true, Oper.wp, execOp, resolve, List.map_toArray, List.map_cons, List.map_nil, Option.map_some, Option.map_none, e0]
        go_simp
        exact hK _ _ rfl (Same.refl _ _)
      · intro ac wc hs hd hz hf hw K hK
        have e0 : ac.eval (.tmp 7) = (.pointer (some ⟨p + 1, 0, none⟩)) := hf 7 rfl
        have m0 : wc.cell? ⟨p + 1, 0, none⟩ = some (.int .i64 X2.kind) := hs.cell (p := ⟨p + 1, 0, none⟩) trivial b0
        have m1 : wc.cell? ⟨p + 1, 1, none⟩ = some (.string (str X2.s)) := hs.cell (p := ⟨p + 1, 1, none⟩) trivial b1
        have m2 : wc.cell? ⟨p + 1, 2, none⟩ = some (.int .i64 X2.v.kind) := hs.cell (p := ⟨p + 1, 2, none⟩) trivial b2
        have m3 : wc.cell? ⟨p + 1, 3, none⟩ = some (.int .i64 X2.v.n) := hs.cell (p := ⟨p + 1, 3, none⟩) trivial b3
        have m4 : wc.cell? ⟨p + 1, 4, none⟩ = some (.string (str X2.v.s)) := hs.cell (p := ⟨p + 1, 4, none⟩) trivial b4
        have m5 : wc.cell? ⟨p + 1, 5, none⟩ = some (.slice none 0 0) := hs.cell (p := ⟨p + 1, 5, none⟩) trivial b5
        clear hd hz hf hw
        simp only [Region.wanted, if_true, Oper.wp, execOp, resolve, List.map_toArray, List.map_cons, List.map_nil, Option.map_some, Option.map_none, e0]
        go_simp
        exact hK _ _ rfl (Same.refl _ _)
      · intro ac wc hs hd hz hf hw K hK
        have e0 : ac.eval (.tmp 30) = (exV (.slice none 0 0) X1) := hw 2 rfl
        have e1 : ac.eval (.tmp 31) = (exV (.slice none 0 0) X2) := hw 3 rfl
        clear hd hz hf hw
        simp only [Region.wanted, if_true, Oper.wp, execOp, resolve, List.map_toArray, List.map_cons, List.map_nil, Option.map_some, Option.map_none, e0, e1]
        go_simp
        exact hK _ _ (ExL.fresh2 wc (hx1.out wc) (hx2.out wc)) ((Same.refl _ _).alloc _)
      · intro ac wc hs hd hz hf hw K hK
        have p0 : ((.exl [X1, X2]) : SP).p (ac.eval (.tmp 32)) wc := hw 4 rfl
        obtain ⟨u0, e0⟩ : ∃ u, ac.eval (.tmp 32) = u := ⟨_, rfl⟩
        rw [e0] at p0
        clear hd hz hf hw
        simp only [Region.wanted, if_true, Oper.wp, execOp, resolve, List.map_toArray, List.map_cons, List.map_nil, Option.map_some, Option.map_none, e0]
        go_simp
        refine (op_v _ [43] _ _ p0).mono ?_
        rintro e wd ⟨vt, rfl, ht9, hs9⟩
        exact hK _ _ ht9 hs9
      · intro ac wc hs hd hz hf hw K hK
        have p0 : (.tab : SP).p (ac.eval (.tmp 28)) wc := hw 0 rfl
        obtain ⟨u0, e0⟩ : ∃ u, ac.eval (.tmp 28) = u := ⟨_, rfl⟩
        rw [e0] at p0
        have e1 : ac.eval (.tmp 29) = (.slice (some ⟨g0, 0, none⟩) 3 3) := hw 1 rfl
        have p2 : ((.tree (.mk 3 [43] .zero [X1, X2])) : SP).p (ac.eval (.tmp 33)) wc := hw 5 rfl
        obtain ⟨u2, e2⟩ : ∃ u, ac.eval (.tmp 33) = u := ⟨_, rfl⟩
        rw [e2] at p2
        clear hd hz hf hw
        simp only [Region.wanted, if_true, Oper.wp, execOp, resolve, List.map_toArray, List.map_cons, List.map_nil, Option.map_some, Option.map_none, e0, e1, e2]
        go_simp
        refine (EvS.out _ _ _ _ p0 p2 (RowR.keepAll Hrow.out hs)).mono ?_
        rintro e wd ⟨rfl, hs2⟩
        exact hK _ _ rfl hs2
      · intro ac wc hs hd hz hf hw K hK
        have e0 : ac.eval (.tmp 34) = (.tuple #[valV S.1, .int .i64 S.2]) := hw 6 rfl
        clear hd hz hf hw
        simp only [Region.wanted, if_true, Oper.wp, execOp, resolve, List.map_toArray, List.map_cons, List.map_nil, Option.map_some, Option.map_none, e0]
        go_simp
        exact hK _ _ rfl (Same.refl _ _)
      · intro ac wc hs hd hz hf hw K hK
        have e0 : ac.eval (.tmp 27) = (.tuple #[valV S.1, .int .i64 S.2]) := hw 7 rfl
        clear hd hz hf hw
        simp only [Region.wanted, if_true, Oper.wp, execOp, resolve, List.map_toArray, List.map_cons, List.map_nil, Option.map_some, Option.map_none, e0]
        go_simp
        exact hK _ _ rfl (Same.refl _ _)
      · intro ac wc hs hd hz hf hw K hK
        have e0 : ac.eval (.tmp 27) = (.tuple #[valV S.1, .int .i64 S.2]) := hw 7 rfl
        clear hd hz hf hw
        simp only [Region.wanted, if_true, Oper.wp, execOp, resolve, List.map_toArray, List.map_cons, List.map_nil, Option.map_some, Option.map_none, e0]
        go_simp
        exact hK _ _ rfl (Same.refl _ _)
      · intro ac wc hs hd hz hf hw K hK
        clear hd hz hf hw
        simp only [Region.wanted, if_true, Oper.wp, execOp, resolve, List.map_toArray, List.map_cons, List.map_nil, Option.map_some, Option.map_none]
        go_simp
        exact hK _ _ ⟨_, rfl, hs.size, Row.new wc _ (valCs .zero)⟩ ((Same.refl _ _).alloc _)
    · intro vs wR hvl hvp hsR
      rcases vs with _ | ⟨z0, _ | ⟨z1, _ | ⟨z2, _ | ⟨z3, _ | ⟨z4, _ | ⟨z5, _ | ⟨z6, _ | ⟨z7, _ | ⟨z8, _ | ⟨z9, _ | ⟨z10, _ | ⟨zz, zr⟩⟩⟩⟩⟩⟩⟩⟩⟩⟩⟩⟩
      rotate_right 1
      · simp at hvl
      · simp at hvl
      · simp at hvl
      · simp at hvl
      · simp at hvl
      · simp at hvl
      · simp at hvl
      · simp at hvl
      · simp at hvl
      · simp at hvl
      · simp at hvl
      · simp at hvl
      · have htb : (.tab : SP).p z0 wR := hvp 0 (by omega)
        obtain rfl : z1 = (.slice (some ⟨g0, 0, none⟩) 3 3) := hvp 1 (by omega)
        obtain rfl : z2 = (exV (.slice none 0 0) X1) := hvp 2 (by omega)
        obtain rfl : z3 = (exV (.slice none 0 0) X2) := hvp 3 (by omega)
        have hsl32 : ((.exl [X1, X2]) : SP).p z4 wR := hvp 4 (by omega)
        have htr33 : ((.tree (.mk 3 [43] .zero [X1, X2])) : SP).p z5 wR := hvp 5 (by omega)
        obtain rfl : z6 = (.tuple #[valV S.1, .int .i64 S.2]) := hvp 6 (by omega)
        obtain rfl : z7 = (.tuple #[valV S.1, .int .i64 S.2]) := hvp 7 (by omega)
        obtain rfl : z8 = (valV S.1) := hvp 8 (by omega)
        obtain rfl : z9 = (.int .i64 S.2) := hvp 9 (by omega)
        have hfr : ((.fresh W4.heap.size 23 (valCs .zero)) : SP).p z10 wR := hvp 10 (by omega)
        clear hvl hvp
        simp only [putAll, Act.put, List.setIfInBounds_toArray, List.set_cons_succ, List.set_cons_zero, List.take_succ_cons, List.take_zero, List.drop_succ_cons, List.drop_zero, List.eraseIdx_cons_succ, List.eraseIdx_cons_zero]
        obtain ⟨g, rfl, hg, hrg⟩ := hfr
        have y0 : wR.cell? ⟨g, 0, none⟩ = some (.int .i64 0) := hrg.cell 0
        have y1 : wR.cell? ⟨g, 1, none⟩ = some (.int .i64 0) := hrg.cell 1
        have y2 : wR.cell? ⟨g, 2, none⟩ = some (.string (str [])) := hrg.cell 2
        have x0 : wR.frozen? ⟨g, 0, none⟩ = false := hrg.frozen 0
        have x1 : wR.frozen? ⟨g, 1, none⟩ = false := hrg.frozen 1
        have x2 : wR.frozen? ⟨g, 2, none⟩ = false := hrg.frozen 2
        have Hrg := Lib.hid hrg
        have HsR := Lib.hid hsR
        have zG := hrg.lt
        clear hsR hrg 
        go_wp2
        go_meet
        exact ⟨_, g, rfl, rfl, rfl, hg, Hrg.out.set3 _, HsR.out.set3 (fun h => by omega) _ _ _⟩
    · intro vs wR hvl hvp hsR
      rcases vs with _ | ⟨z0, _ | ⟨z1, _ | ⟨z2, _ | ⟨z3, _ | ⟨z4, _ | ⟨z5, _ | ⟨z6, _ | ⟨z7, _ | ⟨z8, _ | ⟨z10, _ | ⟨zz, zr⟩⟩⟩⟩⟩⟩⟩⟩⟩⟩⟩
      rotate_right 1
      · simp at hvl
      · simp at hvl
      · simp at hvl
      · simp at hvl
      · simp at hvl
      · simp at hvl
      · simp at hvl
      · simp at hvl
      · simp at hvl
      · simp at hvl
      · simp at hvl
      · have htb : (.tab : SP).p z0 wR := hvp 0 (by omega)
        obtain rfl : z1 = (.slice (some ⟨g0, 0, none⟩) 3 3) := hvp 1 (by omega)
        obtain rfl : z2 = (exV (.slice none 0 0) X1) := hvp 2 (by omega)
        obtain rfl : z3 = (exV (.slice none 0 0) X2) := hvp 3 (by omega)
        have hsl32 : ((.exl [X1, X2]) : SP).p z4 wR := hvp 4 (by omega)
        have htr33 : ((.tree (.mk 3 [43] .zero [X1, X2])) : SP).p z5 wR := hvp 5 (by omega)
        obtain rfl : z6 = (.tuple #[valV S.1, .int .i64 S.2]) := hvp 6 (by omega)
        obtain rfl : z7 = (.tuple #[valV S.1, .int .i64 S.2]) := hvp 7 (by omega)
        obtain rfl : z8 = (valV S.1) := hvp 8 (by omega)
        have hfr : ((.fresh W4.heap.size 23 (valCs .zero)) : SP).p z10 wR := hvp 9 (by omega)
        clear hvl hvp
        simp only [putAll, Act.put, List.setIfInBounds_toArray, List.set_cons_succ, List.set_cons_zero, List.take_succ_cons, List.take_zero, List.drop_succ_cons, List.drop_zero, List.eraseIdx_cons_succ, List.eraseIdx_cons_zero]
        obtain ⟨g, rfl, hg, hrg⟩ := hfr
        have y0 : wR.cell? ⟨g, 0, none⟩ = some (.int .i64 0) := hrg.cell 0
        have y1 : wR.cell? ⟨g, 1, none⟩ = some (.int .i64 0) := hrg.cell 1
        have y2 : wR.cell? ⟨g, 2, none⟩ = some (.string (str [])) := hrg.cell 2
        have x0 : wR.frozen? ⟨g, 0, none⟩ = false := hrg.frozen 0
        have x1 : wR.frozen? ⟨g, 1, none⟩ = false := hrg.frozen 1
        have x2 : wR.frozen? ⟨g, 2, none⟩ = false := hrg.frozen 2
        have Hrg := Lib.hid hrg
        have HsR := Lib.hid hsR
        have zG := hrg.lt
        clear hsR hrg 
        go_wp2
        go_meet
        exact ⟨_, g, rfl, rfl, rfl, hg, Hrg.out.set3 _, HsR.out.set3 (fun h => by omega) _ _ _⟩
  case rest =>
    obtain ⟨W5, g5, rfl, rfl, rfl, hg5, hr5, hS5⟩ := hcut
    have hrow := RowR.keepAll Hrow.out hS5
    have hra := Hra.out.keep hS5 trivial
    have hrb := Hrb.out.keep hS5 trivial
    have HS5 := Lib.hid (HS4.out.trans hS5)
    clear hS5 Hra Hrb Hrow a0 a1 a2 a3 a4 a5 b0 b1 b2 b3 b4 b5 za zb
    have Hrow := Lib.hid hrow
    have Hr5 := Lib.hid hr5
    clear hrow hr5
    have a0 : W5.cell? ⟨p, 0, none⟩ = some (.int .i64 X1.kind) := hra.cell 0
    have a1 : W5.cell? ⟨p, 1, none⟩ = some (.string (str X1.s)) := hra.cell 1
    have a2 : W5.cell? ⟨p, 2, none⟩ = some (.int .i64 X1.v.kind) := hra.cell 2
    have a3 : W5.cell? ⟨p, 3, none⟩ = some (.int .i64 X1.v.n) := hra.cell 3
    have a4 : W5.cell? ⟨p, 4, none⟩ = some (.string (str X1.v.s)) := hra.cell 4
    have a5 : W5.cell? ⟨p, 5, none⟩ = some (.slice none 0 0) := hra.cell 5
    have b0 : W5.cell? ⟨p + 1, 0, none⟩ = some (.int .i64 X2.kind) := hrb.cell 0
    have b1 : W5.cell? ⟨p + 1, 1, none⟩ = some (.string (str X2.s)) := hrb.cell 1
    have b2 : W5.cell? ⟨p + 1, 2, none⟩ = some (.int .i64 X2.v.kind) := hrb.cell 2
    have b3 : W5.cell? ⟨p + 1, 3, none⟩ = some (.int .i64 X2.v.n) := hrb.cell 3
    have b4 : W5.cell? ⟨p + 1, 4, none⟩ = some (.string (str X2.v.s)) := hrb.cell 4
    have b5 : W5.cell? ⟨p + 1, 5, none⟩ = some (.slice none 0 0) := hrb.cell 5
    have za := hra.lt
    have zb := hrb.lt
    have Hra := Lib.hid hra
    have Hrb := Lib.hid hrb
    clear hra hrb
    have s0 : W5.cell? ⟨g5, 0, none⟩ = some (.int .i64 S.1.kind) := Hr5.out.cell 0
    have s1 : W5.cell? ⟨g5, 1, none⟩ = some (.int .i64 S.1.n) := Hr5.out.cell 1
    have s2 : W5.cell? ⟨g5, 2, none⟩ = some (.string (str S.1.s)) := Hr5.out.cell 2
    have zs := Hr5.out.lt
    go_wp2
    go_upto_region 6 with (fail)
    go_cut [10, 11] from 37 to 47 (fun vA vB wx => ∃ (W6 : World) (g : Nat), W6 = wx ∧ vA = .pointer (some ⟨g, 0, none⟩) ∧ vB = .int .i64 D.2 ∧ W5.heap.size ≤ g ∧ Row W6 g 23 (valCs D.1) ∧ Same (fun _ => True) W5 W6)
    case first =>
      refine wp_region_tail_d (L := [.of .tab, .eq (.slice (some ⟨g0, 0, none⟩) 3 3), .eq (valV S.1), .eq (exV (.slice none 0 0) (.mk 1 [] S.1 [])), .eq (exV (.slice none 0 0) X2), .of (.exl [(.mk 1 [] S.1 []), X2]), .of (.tree (.mk 3 [45] .zero [(.mk 1 [] S.1 []), X2])), .eq (.tuple #[valV D.1, .int .i64 D.2]), .eq (.tuple #[valV D.1, .int .i64 D.2]), .eq (valV D.1), .eq (.int .i64 D.2), .of (.fresh W5.heap.size 23 (valCs .zero))]) 12 10 (by omega) (by kernel_rfl) (by kernel_rfl) rfl rfl rfl rfl rfl rfl ?_ ?_ ?_
      · refine ⟨?_, ?_, ?_, ?_, ?_, ?_, ?_, ?_, ?_, ?_, ?_, ?_, trivial⟩
        · intro ac wc hs hd hz hf hw K hK
          clear hd hz hf hw
          simp only [Region.wanted, if_true, Oper.wp, execOp, resolve, List.map_toArray, List.map_cons, List.map_nil, Option.map_some, Option.map_none]
          go_simp
          refine (table_any _).mono ?_
          rintro e wd ⟨vt, rfl, ht9, hs9⟩
          exact hK _ _ ht9 hs9
        · intro ac wc hs hd hz hf hw K hK
          have e0 : ac.eval (.tmp 5) = (.slice (some ⟨g0, 0, none⟩) 3 3) := hf 5 rfl
          clear hd hz hf hw
          simp only [Region.wanted, if_true, Oper.wp, execOp, resolve, List.map_toArray, List.map_cons, List.map_nil, Option.map_some, Option.map_none, e0]
          go_simp
          exact hK _ _ rfl (Same.refl _ _)
        · intro ac wc hs hd hz hf hw K hK
          have e0 : ac.eval (.tmp 8) = (.pointer (some ⟨g5, 0, none⟩)) := hf 8 rfl
          have m0 : wc.cell? ⟨g5, 0, none⟩ = some (.int .i64 S.1.kind) := hs.cell (p := ⟨g5, 0, none⟩) trivial s0
          have m1 : wc.cell? ⟨g5, 1, none⟩ = some (.int .i64 S.1.n) := hs.cell (p := ⟨g5, 1, none⟩) trivial s1
          have m2 : wc.cell? ⟨g5, 2, none⟩ = some (.string (str S.1.s)) := hs.cell (p := ⟨g5, 2, none⟩) trivial s2
          clear hd hz hf hw
          simp only [Region.wanted, if_true, Oper.wp, execOp, resolve, List.map_toArray, List.map_cons, List.map_nil, Option.map_some, Option.map_none, e0]
          go_simp
          exact hK _ _ rfl (Same.refl _ _)
        · intro ac wc hs hd hz hf hw K hK
          have e0 : ac.eval (.tmp 40) = (valV S.1) := hw 2 rfl
          clear hd hz hf hw
          simp only [Region.wanted, if_true, Oper.wp, execOp, resolve, List.map_toArray, List.map_cons, List.map_nil, Option.map_some, Option.map_none, e0]
          go_simp
          refine (lit_any S.1 _).mono ?_
          rintro e wd ⟨rfl, hs2⟩
          exact hK _ _ rfl hs2
        · intro ac wc hs hd hz hf hw K hK
          have e0 : ac.eval (.tmp 7) = (.pointer (some ⟨p + 1, 0, none⟩)) := hf 7 rfl
          have m0 : wc.cell? ⟨p + 1, 0, none⟩ = some (.int .i64 X2.kind) := hs.cell (p := ⟨p + 1, 0, none⟩) trivial b0
          have m1 : wc.cell? ⟨p + 1, 1, none⟩ = some (.string (str X2.s)) := hs.cell (p := ⟨p + 1, 1, none⟩) trivial b1
          have m2 : wc.cell? ⟨p + 1, 2, none⟩ = some (.int .i64 X2.v.kind) := hs.cell (p := ⟨p + 1, 2, none⟩) trivial b2
          have m3 : wc.cell? ⟨p + 1, 3, none⟩ = some (.int .i64 X2.v.n) := hs.cell (p := ⟨p + 1, 3, none⟩) trivial b3
          have m4 : wc.cell? ⟨p + 1, 4, none⟩ = some (.string (str X2.v.s)) := hs.cell (p := ⟨p + 1, 4, none⟩) trivial b4
          have m5 : wc.cell? ⟨p + 1, 5, none⟩ = some (.slice none 0 0) := hs.cell (p := ⟨p + 1, 5, none⟩) trivial b5
          clear hd hz hf hw
          simp only [Region.wanted, if_true, Oper.wp, execOp, resolve, List.map_toArray, List.map_cons, List.map_nil, Option.map_some, Option.map_none, e0]
          go_simp
          exact hK _ _ rfl (Same.refl _ _)
        · intro ac wc hs hd hz hf hw K hK
          have e0 : ac.eval (.tmp 41) = (exV (.slice none 0 0) (.mk 1 [] S.1 [])) := hw 3 rfl
          have e1 : ac.eval (.tmp 42) = (exV (.slice none 0 0) X2) := hw 4 rfl
          clear hd hz hf hw
          simp only [Region.wanted, if_true, Oper.wp, execOp, resolve, List.map_toArray, List.map_cons, List.map_nil, Option.map_some, Option.map_none, e0, e1]
          go_simp
          exact hK _ _ (ExL.fresh2 wc (ExR.leaf wc _ _ _ _) (hx2.out wc)) ((Same.refl _ _).alloc _)
        · intro ac wc hs hd hz hf hw K hK
          have p0 : ((.exl [(.mk 1 [] S.1 []), X2]) : SP).p (ac.eval (.tmp 43)) wc := hw 5 rfl
          obtain ⟨u0, e0⟩ : ∃ u, ac.eval (.tmp 43) = u := ⟨_, rfl⟩
          rw [e0] at p0
          clear hd hz hf hw
          simp only [Region.wanted, if_true, Oper.wp, execOp, resolve, List.map_toArray, List.map_cons, List.map_nil, Option.map_some, Option.map_none, e0]
          go_simp
          refine (op_v _ [45] _ _ p0).mono ?_
          rintro e wd ⟨vt, rfl, ht9, hs9⟩
          exact hK _ _ ht9 hs9
        · intro ac wc hs hd hz hf hw K hK
          have p0 : (.tab : SP).p (ac.eval (.tmp 38)) wc := hw 0 rfl
          obtain ⟨u0, e0⟩ : ∃ u, ac.eval (.tmp 38) = u := ⟨_, rfl⟩
          rw [e0] at p0
          have e1 : ac.eval (.tmp 39) = (.slice (some ⟨g0, 0, none⟩) 3 3) := hw 1 rfl
          have p2 : ((.tree (.mk 3 [45] .zero [(.mk 1 [] S.1 []), X2])) : SP).p (ac.eval (.tmp 44)) wc := hw 6 rfl
          obtain ⟨u2, e2⟩ : ∃ u, ac.eval (.tmp 44) = u := ⟨_, rfl⟩
          rw [e2] at p2
          clear hd hz hf hw
          simp only [Region.wanted, if_true, Oper.wp, execOp, resolve, List.map_toArray, List.map_cons, List.map_nil, Option.map_some, Option.map_none, e0, e1, e2]
          go_simp
          refine (EvD.out _ _ _ _ p0 p2 (RowR.keepAll Hrow.out hs)).mono ?_
          rintro e wd ⟨rfl, hs2⟩
          exact hK _ _ rfl hs2
        · intro ac wc hs hd hz hf hw K hK
          have e0 : ac.eval (.tmp 45) = (.tuple #[valV D.1, .int .i64 D.2]) := hw 7 rfl
          clear hd hz hf hw
          simp only [Region.wanted, if_true, Oper.wp, execOp, resolve, List.map_toArray, List.map_cons, List.map_nil, Option.map_some, Option.map_none, e0]
          go_simp
          exact hK _ _ rfl (Same.refl _ _)
        · intro ac wc hs hd hz hf hw K hK
          have e0 : ac.eval (.tmp 37) = (.tuple #[valV D.1, .int .i64 D.2]) := hw 8 rfl
          clear hd hz hf hw
          simp only [Region.wanted, if_true, Oper.wp, execOp, resolve, List.map_toArray, List.map_cons, List.map_nil, Option.map_some, Option.map_none, e0]
          go_simp
          exact hK _ _ rfl (Same.refl _ _)
        · intro ac wc hs hd hz hf hw K hK
          have e0 : ac.eval (.tmp 37) = (.tuple #[valV D.1, .int .i64 D.2]) := hw 8 rfl
          clear hd hz hf hw
          simp only [Region.wanted, if_true, Oper.wp, execOp, resolve, List.map_toArray, List.map_cons, List.map_nil, Option.map_some, Option.map_none, e0]
          go_simp
          exact hK _ _ rfl (Same.refl _ _)
        · intro ac wc hs hd hz hf hw K hK
          clear hd hz hf hw
          simp only [Region.wanted, if_true, Oper.wp, execOp, resolve, List.map_toArray, List.map_cons, List.map_nil, Option.map_some, Option.map_none]
          go_simp
          exact hK _ _ ⟨_, rfl, hs.size, Row.new wc _ (valCs .zero)⟩ ((Same.refl _ _).alloc _)
      · intro vs wR hvl hvp hsR
        rcases vs with _ | ⟨z0, _ | ⟨z1, _ | ⟨z2, _ | ⟨z3, _ | ⟨z4, _ | ⟨z5, _ | ⟨z6, _ | ⟨z7, _ | ⟨z8, _ | ⟨z9, _ | ⟨z10, _ | ⟨z11, _ | ⟨zz, zr⟩⟩⟩⟩⟩⟩⟩⟩⟩⟩⟩⟩⟩
        rotate_right 1
        · simp at hvl
        · simp at hvl
        · simp at hvl
        · simp at hvl
        · simp at hvl
        · simp at hvl
        · simp at hvl
        · simp at hvl
        · simp at hvl
        · simp at hvl
        · simp at hvl
        · simp at hvl
        · simp at hvl
        · have htb : (.tab : SP).p z0 wR := hvp 0 (by omega)
          obtain rfl : z1 = (.slice (some ⟨g0, 0, none⟩) 3 3) := hvp 1 (by omega)
          obtain rfl : z2 = (valV S.1) := hvp 2 (by omega)
          obtain rfl : z3 = (exV (.slice none 0 0) (.mk 1 [] S.1 [])) := hvp 3 (by omega)
          obtain rfl : z4 = (exV (.slice none 0 0) X2) := hvp 4 (by omega)
          have hsl43 : ((.exl [(.mk 1 [] S.1 []), X2]) : SP).p z5 wR := hvp 5 (by omega)
          have htr44 : ((.tree (.mk 3 [45] .zero [(.mk 1 [] S.1 []), X2])) : SP).p z6 wR := hvp 6 (by omega)
          obtain rfl : z7 = (.tuple #[valV D.1, .int .i64 D.2]) := hvp 7 (by omega)
          obtain rfl : z8 = (.tuple #[valV D.1, .int .i64 D.2]) := hvp 8 (by omega)
          obtain rfl : z9 = (valV D.1) := hvp 9 (by omega)
          obtain rfl : z10 = (.int .i64 D.2) := hvp 10 (by omega)
          have hfr : ((.fresh W5.heap.size 23 (valCs .zero)) : SP).p z11 wR := hvp 11 (by omega)
          clear hvl hvp
          simp only [putAll, Act.put, List.setIfInBounds_toArray, List.set_cons_succ, List.set_cons_zero, List.take_succ_cons, List.take_zero, List.drop_succ_cons, List.drop_zero, List.eraseIdx_cons_succ, List.eraseIdx_cons_zero]
          obtain ⟨g, rfl, hg, hrg⟩ := hfr
          have y0 : wR.cell? ⟨g, 0, none⟩ = some (.int .i64 0) := hrg.cell 0
          have y1 : wR.cell? ⟨g, 1, none⟩ = some (.int .i64 0) := hrg.cell 1
          have y2 : wR.cell? ⟨g, 2, none⟩ = some (.string (str [])) := hrg.cell 2
          have x0 : wR.frozen? ⟨g, 0, none⟩ = false := hrg.frozen 0
          have x1 : wR.frozen? ⟨g, 1, none⟩ = false := hrg.frozen 1
          have x2 : wR.frozen? ⟨g, 2, none⟩ = false := hrg.frozen 2
          have Hrg := Lib.hid hrg
          have HsR := Lib.hid hsR
          have zG := hrg.lt
          clear hsR hrg 
          go_wp2
          go_meet
          exact ⟨_, g, rfl, rfl, rfl, hg, Hrg.out.set3 _, HsR.out.set3 (fun h => by omega) _ _ _⟩
      · intro vs wR hvl hvp hsR
        rcases vs with _ | ⟨z0, _ | ⟨z1, _ | ⟨z2, _ | ⟨z3, _ | ⟨z4, _ | ⟨z5, _ | ⟨z6, _ | ⟨z7, _ | ⟨z8, _ | ⟨z9, _ | ⟨z11, _ | ⟨zz, zr⟩⟩⟩⟩⟩⟩⟩⟩⟩⟩⟩⟩
        rotate_right 1
        · simp at hvl
        · simp at hvl
        · simp at hvl
        · simp at hvl
        · simp at hvl
        · simp at hvl
        · simp at hvl
        · simp at hvl
        · simp at hvl
        · simp at hvl
        · simp at hvl
        · simp at hvl
        · have htb : (.tab : SP).p z0 wR := hvp 0 (by omega)
          obtain rfl : z1 = (.slice (some ⟨g0, 0, none⟩) 3 3) := hvp 1 (by omega)
          obtain rfl : z2 = (valV S.1) := hvp 2 (by omega)
          obtain rfl : z3 = (exV (.slice none 0 0) (.mk 1 [] S.1 [])) := hvp 3 (by omega)
          obtain rfl : z4 = (exV (.slice none 0 0) X2) := hvp 4 (by omega)
          have hsl43 : ((.exl [(.mk 1 [] S.1 []), X2]) : SP).p z5 wR := hvp 5 (by omega)
          have htr44 : ((.tree (.mk 3 [45] .zero [(.mk 1 [] S.1 []), X2])) : SP).p z6 wR := hvp 6 (by omega)
          obtain rfl : z7 = (.tuple #[valV D.1, .int .i64 D.2]) := hvp 7 (by omega)
          obtain rfl : z8 = (.tuple #[valV D.1, .int .i64 D.2]) := hvp 8 (by omega)
          obtain rfl : z9 = (valV D.1) := hvp 9 (by omega)
          have hfr : ((.fresh W5.heap.size 23 (valCs .zero)) : SP).p z11 wR := hvp 10 (by omega)
          clear hvl hvp
          simp only [putAll, Act.put, List.setIfInBounds_toArray, List.set_cons_succ, List.set_cons_zero, List.take_succ_cons, List.take_zero, List.drop_succ_cons, List.drop_zero, List.eraseIdx_cons_succ, List.eraseIdx_cons_zero]
          obtain ⟨g, rfl, hg, hrg⟩ := hfr
          have y0 : wR.cell? ⟨g, 0, none⟩ = some (.int .i64 0) := hrg.cell 0
          have y1 : wR.cell? ⟨g, 1, none⟩ = some (.int .i64 0) := hrg.cell 1
          have y2 : wR.cell? ⟨g, 2, none⟩ = some (.string (str [])) := hrg.cell 2
          have x0 : wR.frozen? ⟨g, 0, none⟩ = false := hrg.frozen 0
          have x1 : wR.frozen? ⟨g, 1, none⟩ = false := hrg.frozen 1
          have x2 : wR.frozen? ⟨g, 2, none⟩ = false := hrg.frozen 2
          have Hrg := Lib.hid hrg
          have HsR := Lib.hid hsR
          have zG := hrg.lt
          clear hsR hrg 
          go_wp2
          go_meet
          exact ⟨_, g, rfl, rfl, rfl, hg, Hrg.out.set3 _, HsR.out.set3 (fun h => by omega) _ _ _⟩
    case rest =>
      obtain ⟨W6, g6, rfl, rfl, rfl, hg6, hr6, hS6⟩ := hcut
      have hrow := RowR.keepAll Hrow.out hS6
      have hra := Hra.out.keep hS6 trivial
      have hrb := Hrb.out.keep hS6 trivial
      have hr5 := Hr5.out.keep hS6 trivial
      have HS6 := Lib.hid (HS5.out.trans hS6)
      clear hS6 Hra Hrb Hrow a0 a1 a2 a3 a4 a5 b0 b1 b2 b3 b4 b5 za zb s0 s1 s2 zs Hr5
      have Hrow := Lib.hid hrow
      have Hr5 := Lib.hid hr5
      have Hr6 := Lib.hid hr6
      clear hrow hr5 hr6
      have a0 : W6.cell? ⟨p, 0, none⟩ = some (.int .i64 X1.kind) := hra.cell 0
      have a1 : W6.cell? ⟨p, 1, none⟩ = some (.string (str X1.s)) := hra.cell 1
      have a2 : W6.cell? ⟨p, 2, none⟩ = some (.int .i64 X1.v.kind) := hra.cell 2
      have a3 : W6.cell? ⟨p, 3, none⟩ = some (.int .i64 X1.v.n) := hra.cell 3
      have a4 : W6.cell? ⟨p, 4, none⟩ = some (.string (str X1.v.s)) := hra.cell 4
      have a5 : W6.cell? ⟨p, 5, none⟩ = some (.slice none 0 0) := hra.cell 5
      have b0 : W6.cell? ⟨p + 1, 0, none⟩ = some (.int .i64 X2.kind) := hrb.cell 0
      have b1 : W6.cell? ⟨p + 1, 1, none⟩ = some (.string (str X2.s)) := hrb.cell 1
      have b2 : W6.cell? ⟨p + 1, 2, none⟩ = some (.int .i64 X2.v.kind) := hrb.cell 2
      have b3 : W6.cell? ⟨p + 1, 3, none⟩ = some (.int .i64 X2.v.n) := hrb.cell 3
      have b4 : W6.cell? ⟨p + 1, 4, none⟩ = some (.string (str X2.v.s)) := hrb.cell 4
      have b5 : W6.cell? ⟨p + 1, 5, none⟩ = some (.slice none 0 0) := hrb.cell 5
      have za := hra.lt
      have zb := hrb.lt
      have Hra := Lib.hid hra
      have Hrb := Lib.hid hrb
      clear hra hrb
      go_wp2
      go_upto_region 7 with (fail)
      go_cut [12, 13] from 48 to 57 (fun vA vB wx => ∃ (W7 : World) (g : Nat), W7 = wx ∧ vA = .pointer (some ⟨g, 0, none⟩) ∧ vB = .int .i64 Q.2 ∧ W6.heap.size ≤ g ∧ Row W7 g 23 (valCs Q.1) ∧ Same (fun _ => True) W6 W7)
      case first =>
        refine wp_region_tail_d (L := [.of .tab, .eq (.slice (some ⟨g0, 0, none⟩) 3 3), .eq (exV (.slice none 0 0) X1), .eq (exV (.slice none 0 0) X2), .of (.exl [X1, X2]), .of (.tree (.mk 3 [47] .zero [X1, X2])), .eq (.tuple #[valV Q.1, .int .i64 Q.2]), .eq (.tuple #[valV Q.1, .int .i64 Q.2]), .eq (valV Q.1), .eq (.int .i64 Q.2), .of (.fresh W6.heap.size 23 (valCs .zero))]) 11 9 (by omega) (by kernel_rfl) (by kernel_rfl) rfl rfl rfl rfl rfl rfl ?_ ?_ ?_
        · refine ⟨?_, ?_, ?_, ?_, ?_, ?_, ?_, ?_, ?_, ?_, ?_, trivial⟩
          · intro ac wc hs hd hz hf hw K hK
            clear hd hz hf hw
            simp only [Region.wanted, if_true, Oper.wp, execOp, resolve, List.map_toArray, List.map_cons, List.map_nil, Option.map_some, Option.map_none]
            go_simp
            refine (table_any _).mono ?_
            rintro e wd ⟨vt, rfl, ht9, hs9⟩
            exact hK _ _ ht9 hs9
          · intro ac wc hs hd hz hf hw K hK
            have e0 : ac.eval (.tmp 5) = (.slice (some ⟨g0, 0, none⟩) 3 3) := hf 5 rfl
            clear hd hz hf hw
            simp only [Region.wanted, if_true, Oper.wp, execOp, resolve, List.map_toArray, List.map_cons, List.map_nil, Option.map_some, Option.map_none, e0]
            go_simp
            exact hK _ _ rfl (Same.refl _ _)
          · intro ac wc hs hd hz hf hw K hK
            have e0 : ac.eval (.tmp 6) = (.pointer (some ⟨p, 0, none⟩)) := hf 6 rfl
            have m0 : wc.cell? ⟨p, 0, none⟩ = some (.int .i64 X1.kind) := hs.cell (p := ⟨p, 0, none⟩) trivial a0
            have m1 : wc.cell? ⟨p, 1, none⟩ = some (.string (str X1.s)) := hs.cell (p := ⟨p, 1, none⟩) trivial a1
            have m2 : wc.cell? ⟨p, 2, none⟩ = some (.int .i64 X1.v.kind) := hs.cell (p := ⟨p, 2, none⟩) trivial a2
            have m3 : wc.cell? ⟨p, 3, none⟩ = some (.int .i64 X1.v.n) := hs.cell (p := ⟨p, 3, none⟩) trivial a3
            have m4 : wc.cell? ⟨p, 4, none⟩ = some (.string (str X1.v.s)) := hs.cell (p := ⟨p, 4, none⟩) trivial a4
            have m5 : wc.cell? ⟨p, 5, none⟩ = some (.slice none 0 0) := hs.cell (p := ⟨p, 5, none⟩) trivial a5
            clear hd hz hf hw
            simp only [Region.wanted, if_true, Oper.wp, execOp, resolve, List.map_toArray, List.map_cons, List.map_nil, Option.map_some, Option.map_none, e0]
            go_simp
            exact hK _ _ rfl (Same.refl _ _)
          · intro ac wc hs hd hz hf hw K hK
            have e0 : ac.eval (.tmp 7) = (.pointer (some ⟨p + 1, 0, none⟩)) := hf 7 rfl
            have m0 : wc.cell? ⟨p + 1, 0, none⟩ = some (.int .i64 X2.kind) := hs.cell (p := ⟨p + 1, 0, none⟩) trivial b0
            have m1 : wc.cell? ⟨p + 1, 1, none⟩ = some (.string (str X2.s)) := hs.cell (p := ⟨p + 1, 1, none⟩) trivial b1
            have m2 : wc.cell? ⟨p + 1, 2, none⟩ = some (.int .i64 X2.v.kind) := hs.cell (p := ⟨p + 1, 2, none⟩) trivial b2
            have m3 : wc.cell? ⟨p + 1, 3, none⟩ = some (.int .i64 X2.v.n) := hs.cell (p := ⟨p + 1, 3, none⟩) trivial b3
            have m4 : wc.cell? ⟨p + 1, 4, none⟩ = some (.string (str X2.v.s)) := hs.cell (p := ⟨p + 1, 4, none⟩) trivial b4
            have m5 : wc.cell? ⟨p + 1, 5, none⟩ = some (.slice none 0 0) := hs.cell (p := ⟨p + 1, 5, none⟩) trivial b5
            clear hd hz hf hw
            simp only [Region.wanted, if_true, Oper.wp, execOp, resolve, List.map_toArray, List.map_cons, List.map_nil, Option.map_some, Option.map_none, e0]
            go_simp
            exact hK _ _ rfl (Same.refl _ _)
          · intro ac wc hs hd hz hf hw K hK
            have e0 : ac.eval (.tmp 51) = (exV (.slice none 0 0) X1) := hw 2 rfl
            have e1 : ac.eval (.tmp 52) = (exV (.slice none 0 0) X2) := hw 3 rfl
            clear hd hz hf hw
            simp only [Region.wanted, if_true, Oper.wp, execOp, resolve, List.map_toArray, List.map_cons, List.map_nil, Option.map_some, Option.map_none, e0, e1]
            go_simp
            exact hK _ _ (ExL.fresh2 wc (hx1.out wc) (hx2.out wc)) ((Same.refl _ _).alloc _)
          · intro ac wc hs hd hz hf hw K hK
            have p0 : ((.exl [X1, X2]) : SP).p (ac.eval (.tmp 53)) wc := hw 4 rfl
            obtain ⟨u0, e0⟩ : ∃ u, ac.eval (.tmp 53) = u := ⟨_, rfl⟩
            rw [e0] at p0
            clear hd hz hf hw
            simp only [Region.wanted, if_true, Oper.wp, execOp, resolve, List.map_toArray, List.map_cons, List.map_nil, Option.map_some, Option.map_none, e0]
            go_simp
            refine (op_v _ [47] _ _ p0).mono ?_
            rintro e wd ⟨vt, rfl, ht9, hs9⟩
            exact hK _ _ ht9 hs9
          · intro ac wc hs hd hz hf hw K hK
            have p0 : (.tab : SP).p (ac.eval (.tmp 49)) wc := hw 0 rfl
            obtain ⟨u0, e0⟩ : ∃ u, ac.eval (.tmp 49) = u := ⟨_, rfl⟩
            rw [e0] at p0
            have e1 : ac.eval (.tmp 50) = (.slice (some ⟨g0, 0, none⟩) 3 3) := hw 1 rfl
            have p2 : ((.tree (.mk 3 [47] .zero [X1, X2])) : SP).p (ac.eval (.tmp 54)) wc := hw 5 rfl
            obtain ⟨u2, e2⟩ : ∃ u, ac.eval (.tmp 54) = u := ⟨_, rfl⟩
            rw [e2] at p2
            clear hd hz hf hw
            simp only [Region.wanted, if_true, Oper.wp, execOp, resolve, List.map_toArray, List.map_cons, List.map_nil, Option.map_some, Option.map_none, e0, e1, e2]
            go_simp
            refine (EvQ.out _ _ _ _ p0 p2 (RowR.keepAll Hrow.out hs)).mono ?_
            rintro e wd ⟨rfl, hs2⟩
            exact hK _ _ rfl hs2
          · intro ac wc hs hd hz hf hw K hK
            have e0 : ac.eval (.tmp 55) = (.tuple #[valV Q.1, .int .i64 Q.2]) := hw 6 rfl
            clear hd hz hf hw
            simp only [Region.wanted, if_true, Oper.wp, execOp, resolve, List.map_toArray, List.map_cons, List.map_nil, Option.map_some, Option.map_none, e0]
            go_simp
            exact hK _ _ rfl (Same.refl _ _)
          · intro ac wc hs hd hz hf hw K hK
            have e0 : ac.eval (.tmp 48) = (.tuple #[valV Q.1, .int .i64 Q.2]) := hw 7 rfl
            clear hd hz hf hw
            simp only [Region.wanted, if_true, Oper.wp, execOp, resolve, List.map_toArray, List.map_cons, List.map_nil, Option.map_some, Option.map_none, e0]
            go_simp
            exact hK _ _ rfl (Same.refl _ _)
          · intro ac wc hs hd hz hf hw K hK
            have e0 : ac.eval (.tmp 48) = (.tuple #[valV Q.1, .int .i64 Q.2]) := hw 7 rfl
            clear hd hz hf hw
            simp only [Region.wanted, if_true, Oper.wp, execOp, resolve, List.map_toArray, List.map_cons, List.map_nil, Option.map_some, Option.map_none, e0]
            go_simp
            exact hK _ _ rfl (Same.refl _ _)
          · intro ac wc hs hd hz hf hw K hK
            clear hd hz hf hw
            simp only [Region.wanted, if_true, Oper.wp, execOp, resolve, List.map_toArray, List.map_cons, List.map_nil, Option.map_some, Option.map_none]
            go_simp
            exact hK _ _ ⟨_, rfl, hs.size, Row.new wc _ (valCs .zero)⟩ ((Same.refl _ _).alloc _)
        · intro vs wR hvl hvp hsR
          rcases vs with _ | ⟨z0, _ | ⟨z1, _ | ⟨z2, _ | ⟨z3, _ | ⟨z4, _ | ⟨z5, _ | ⟨z6, _ | ⟨z7, _ | ⟨z8, _ | ⟨z9, _ | ⟨z10, _ | ⟨zz, zr⟩⟩⟩⟩⟩⟩⟩⟩⟩⟩⟩⟩
          rotate_right 1
          · simp at hvl
          · simp at hvl
          · simp at hvl
          · simp at hvl
          · simp at hvl
          · simp at hvl
          · simp at hvl
          · simp at hvl
          · simp at hvl
          · simp at hvl
          · simp at hvl
          · simp at hvl
          · have htb : (.tab : SP).p z0 wR := hvp 0 (by omega)
            obtain rfl : z1 = (.slice (some ⟨g0, 0, none⟩) 3 3) := hvp 1 (by omega)
            obtain rfl : z2 = (exV (.slice none 0 0) X1) := hvp 2 (by omega)
            obtain rfl : z3 = (exV (.slice none 0 0) X2) := hvp 3 (by omega)
            have hsl53 : ((.exl [X1, X2]) : SP).p z4 wR := hvp 4 (by omega)
            have htr54 : ((.tree (.mk 3 [47] .zero [X1, X2])) : SP).p z5 wR := hvp 5 (by omega)
            obtain rfl : z6 = (.tuple #[valV Q.1, .int .i64 Q.2]) := hvp 6 (by omega)
            obtain rfl : z7 = (.tuple #[valV Q.1, .int .i64 Q.2]) := hvp 7 (by omega)
            obtain rfl : z8 = (valV Q.1) := hvp 8 (by omega)
            obtain rfl : z9 = (.int .i64 Q.2) := hvp 9 (by omega)
            have hfr : ((.fresh W6.heap.size 23 (valCs .zero)) : SP).p z10 wR := hvp 10 (by omega)
            clear hvl hvp
            simp only [putAll, Act.put, List.setIfInBounds_toArray, List.set_cons_succ, List.set_cons_zero, List.take_succ_cons, List.take_zero, List.drop_succ_cons, List.drop_zero, List.eraseIdx_cons_succ, List.eraseIdx_cons_zero]
            obtain ⟨g, rfl, hg, hrg⟩ := hfr
            have y0 : wR.cell? ⟨g, 0, none⟩ = some (.int .i64 0) := hrg.cell 0
            have y1 : wR.cell? ⟨g, 1, none⟩ = some (.int .i64 0) := hrg.cell 1
            have y2 : wR.cell? ⟨g, 2, none⟩ = some (.string (str [])) := hrg.cell 2
            have x0 : wR.frozen? ⟨g, 0, none⟩ = false := hrg.frozen 0
            have x1 : wR.frozen? ⟨g, 1, none⟩ = false := hrg.frozen 1
            have x2 : wR.frozen? ⟨g, 2, none⟩ = false := hrg.frozen 2
            have Hrg := Lib.hid hrg
            have HsR := Lib.hid hsR
            have zG := hrg.lt
            clear hsR hrg 
            go_wp2
            go_meet
            exact ⟨_, g, rfl, rfl, rfl, hg, Hrg.out.set3 _, HsR.out.set3 (fun h => by omega) _ _ _⟩
        · intro vs wR hvl hvp hsR
          rcases vs with _ | ⟨z0, _ | ⟨z1, _ | ⟨z2, _ | ⟨z3, _ | ⟨z4, _ | ⟨z5, _ | ⟨z6, _ | ⟨z7, _ | ⟨z8, _ | ⟨z10, _ | ⟨zz, zr⟩⟩⟩⟩⟩⟩⟩⟩⟩⟩⟩
          rotate_right 1
          · simp at hvl
          · simp at hvl
          · simp at hvl
          · simp at hvl
          · simp at hvl
          · simp at hvl
          · simp at hvl
          · simp at hvl
          · simp at hvl
          · simp at hvl
          · simp at hvl
          · have htb : (.tab : SP).p z0 wR := hvp 0 (by omega)
            obtain rfl : z1 = (.slice (some ⟨g0, 0, none⟩) 3 3) := hvp 1 (by omega)
            obtain rfl : z2 = (exV (.slice none 0 0) X1) := hvp 2 (by omega)
            obtain rfl : z3 = (exV (.slice none 0 0) X2) := hvp 3 (by omega)
            have hsl53 : ((.exl [X1, X2]) : SP).p z4 wR := hvp 4 (by omega)
            have htr54 : ((.tree (.mk 3 [47] .zero [X1, X2])) : SP).p z5 wR := hvp 5 (by omega)
            obtain rfl : z6 = (.tuple #[valV Q.1, .int .i64 Q.2]) := hvp 6 (by omega)
            obtain rfl : z7 = (.tuple #[valV Q.1, .int .i64 Q.2]) := hvp 7 (by omega)
            obtain rfl : z8 = (valV Q.1) := hvp 8 (by omega)
            have hfr : ((.fresh W6.heap.size 23 (valCs .zero)) : SP).p z10 wR := hvp 9 (by omega)
            clear hvl hvp
            simp only [putAll, Act.put, List.setIfInBounds_toArray, List.set_cons_succ, List.set_cons_zero, List.take_succ_cons, List.take_zero, List.drop_succ_cons, List.drop_zero, List.eraseIdx_cons_succ, List.eraseIdx_cons_zero]
            obtain ⟨g, rfl, hg, hrg⟩ := hfr
            have y0 : wR.cell? ⟨g, 0, none⟩ = some (.int .i64 0) := hrg.cell 0
            have y1 : wR.cell? ⟨g, 1, none⟩ = some (.int .i64 0) := hrg.cell 1
            have y2 : wR.cell? ⟨g, 2, none⟩ = some (.string (str [])) := hrg.cell 2
            have x0 : wR.frozen? ⟨g, 0, none⟩ = false := hrg.frozen 0
            have x1 : wR.frozen? ⟨g, 1, none⟩ = false := hrg.frozen 1
            have x2 : wR.frozen? ⟨g, 2, none⟩ = false := hrg.frozen 2
            have Hrg := Lib.hid hrg
            have HsR := Lib.hid hsR
            have zG := hrg.lt
            clear hsR hrg 
            go_wp2
            go_meet
            exact ⟨_, g, rfl, rfl, rfl, hg, Hrg.out.set3 _, HsR.out.set3 (fun h => by omega) _ _ _⟩
      case rest =>
        obtain ⟨W7, g7, rfl, rfl, rfl, hg7, hr7, hS7⟩ := hcut
        have hrow := RowR.keepAll Hrow.out hS7
        have hra := Hra.out.keep hS7 trivial
        have hrb := Hrb.out.keep hS7 trivial
        have hr5 := Hr5.out.keep hS7 trivial
        have hr6 := Hr6.out.keep hS7 trivial
        have HS7 := Lib.hid (HS6.out.trans hS7)
        clear hS7 Hra Hrb Hrow a0 a1 a2 a3 a4 a5 b0 b1 b2 b3 b4 b5 za zb Hr5 Hr6
        have Hrow := Lib.hid hrow
        have Hr5 := Lib.hid hr5
        have Hr6 := Lib.hid hr6
        have Hr7 := Lib.hid hr7
        clear hrow hr5 hr6 hr7
        have a0 : W7.cell? ⟨p, 0, none⟩ = some (.int .i64 X1.kind) := hra.cell 0
        have a1 : W7.cell? ⟨p, 1, none⟩ = some (.string (str X1.s)) := hra.cell 1
        have a2 : W7.cell? ⟨p, 2, none⟩ = some (.int .i64 X1.v.kind) := hra.cell 2
        have a3 : W7.cell? ⟨p, 3, none⟩ = some (.int .i64 X1.v.n) := hra.cell 3
        have a4 : W7.cell? ⟨p, 4, none⟩ = some (.string (str X1.v.s)) := hra.cell 4
        have a5 : W7.cell? ⟨p, 5, none⟩ = some (.slice none 0 0) := hra.cell 5
        have b0 : W7.cell? ⟨p + 1, 0, none⟩ = some (.int .i64 X2.kind) := hrb.cell 0
        have b1 : W7.cell? ⟨p + 1, 1, none⟩ = some (.string (str X2.s)) := hrb.cell 1
        have b2 : W7.cell? ⟨p + 1, 2, none⟩ = some (.int .i64 X2.v.kind) := hrb.cell 2
        have b3 : W7.cell? ⟨p + 1, 3, none⟩ = some (.int .i64 X2.v.n) := hrb.cell 3
        have b4 : W7.cell? ⟨p + 1, 4, none⟩ = some (.string (str X2.v.s)) := hrb.cell 4
        have b5 : W7.cell? ⟨p + 1, 5, none⟩ = some (.slice none 0 0) := hrb.cell 5
        have za := hra.lt
        have zb := hrb.lt
        have Hra := Lib.hid hra
        have Hrb := Lib.hid hrb
        clear hra hrb
        go_wp2
        go_upto_region 8 with (fail)
        go_cut [14, 15] from 58 to 67 (fun vA vB wx => ∃ (W8 : World) (g : Nat), W8 = wx ∧ vA = .pointer (some ⟨g, 0, none⟩) ∧ vB = .int .i64 R.2 ∧ W7.heap.size ≤ g ∧ Row W8 g 23 (valCs R.1) ∧ Same (fun _ => True) W7 W8)
        case first =>
          refine wp_region_tail_d (L := [.of .tab, .eq (.slice (some ⟨g0, 0, none⟩) 3 3), .eq (exV (.slice none 0 0) X1), .eq (exV (.slice none 0 0) X2), .of (.exl [X1, X2]), .of (.tree (.mk 3 [37] .zero [X1, X2])), .eq (.tuple #[valV R.1, .int .i64 R.2]), .eq (.tuple #[valV R.1, .int .i64 R.2]), .eq (valV R.1), .eq (.int .i64 R.2), .of (.fresh W7.heap.size 23 (valCs .zero))]) 11 9 (by omega) (by kernel_rfl) (by kernel_rfl) rfl rfl rfl rfl rfl rfl ?_ ?_ ?_
          · refine ⟨?_, ?_, ?_, ?_, ?_, ?_, ?_, ?_, ?_, ?_, ?_, trivial⟩
            · intro ac wc hs hd hz hf hw K hK
              clear hd hz hf hw
              simp only [Region.wanted, if_true, Oper.wp, execOp, resolve, List.map_toArray, List.map_cons, List.map_nil, Option.map_some, Option.map_none]
              go_simp
              refine (table_any _).mono ?_
              rintro e wd ⟨vt, rfl, ht9, hs9⟩
              exact hK _ _ ht9 hs9
            · intro ac wc hs hd hz hf hw K hK
              have e0 : ac.eval (.tmp 5) = (.slice (some ⟨g0, 0, none⟩) 3 3) := hf 5 rfl
              clear hd hz hf hw
              simp only [Region.wanted, if_true, Oper.wp, execOp, resolve, List.map_toArray, List.map_cons, List.map_nil, Option.map_some, Option.map_none, e0]
              go_simp
              exact hK _ _ rfl (Same.refl _ _)
            · intro ac wc hs hd hz hf hw K hK
              have e0 : ac.eval (.tmp 6) = (.pointer (some ⟨p, 0, none⟩)) := hf 6 rfl
              have m0 : wc.cell? ⟨p, 0, none⟩ = some (.int .i64 X1.kind) := hs.cell (p := ⟨p, 0, none⟩) trivial a0
              have m1 : wc.cell? ⟨p, 1, none⟩ = some (.string (str X1.s)) := hs.cell (p := ⟨p, 1, none⟩) trivial a1
              have m2 : wc.cell? ⟨p, 2, none⟩ = some (.int .i64 X1.v.kind) := hs.cell (p := ⟨p, 2, none⟩) trivial a2
              have m3 : wc.cell? ⟨p, 3, none⟩ = some (.int .i64 X1.v.n) := hs.cell (p := ⟨p, 3, none⟩) trivial a3
              have m4 : wc.cell? ⟨p, 4, none⟩ = some (.string (str X1.v.s)) := hs.cell (p := ⟨p, 4, none⟩) trivial a4
              have m5 : wc.cell? ⟨p, 5, none⟩ = some (.slice none 0 0) := hs.cell (p := ⟨p, 5, none⟩) trivial a5
              clear hd hz hf hw
              simp only [Region.wanted, if_true, Oper.wp, execOp, resolve, List.map_toArray, List.map_cons, List.map_nil, Option.map_some, Option.map_none, e0]
              go_simp
              exact hK _ _ rfl (Same.refl _ _)
            · intro ac wc hs hd hz hf hw K hK
              have e0 : ac.eval (.tmp 7) = (.pointer (some ⟨p + 1, 0, none⟩)) := hf 7 rfl
              have m0 : wc.cell? ⟨p + 1, 0, none⟩ = some (.int .i64 X2.kind) := hs.cell (p := ⟨p + 1, 0, none⟩) trivial b0
              have m1 : wc.cell? ⟨p + 1, 1, none⟩ = some (.string (str X2.s)) := hs.cell (p := ⟨p + 1, 1, none⟩) trivial b1
              have m2 : wc.cell? ⟨p + 1, 2, none⟩ = some (.int .i64 X2.v.kind) := hs.cell (p := ⟨p + 1, 2, none⟩) trivial b2
              have m3 : wc.cell? ⟨p + 1, 3, none⟩ = some (.int .i64 X2.v.n) := hs.cell (p := ⟨p + 1, 3, none⟩) trivial b3
              have m4 : wc.cell? ⟨p + 1, 4, none⟩ = some (.string (str X2.v.s)) := hs.cell (p := ⟨p + 1, 4, none⟩) trivial b4
              have m5 : wc.cell? ⟨p + 1, 5, none⟩ = some (.slice none 0 0) := hs.cell (p := ⟨p + 1, 5, none⟩) trivial b5
              clear hd hz hf hw
              simp only [Region.wanted, if_true, Oper.wp, execOp, resolve, List.map_toArray, List.map_cons, List.map_nil, Option.map_some, Option.map_none, e0]
              go_simp
              exact hK _ _ rfl (Same.refl _ _)
            · intro ac wc hs hd hz hf hw K hK
              have e0 : ac.eval (.tmp 61) = (exV (.slice none 0 0) X1) := hw 2 rfl
              have e1 : ac.eval (.tmp 62) = (exV (.slice none 0 0) X2) := hw 3 rfl
              clear hd hz hf hw
              simp only [Region.wanted, if_true, Oper.wp, execOp, resolve, List.map_toArray, List.map_cons, List.map_nil, Option.map_some, Option.map_none, e0, e1]
              go_simp
              exact hK _ _ (ExL.fresh2 wc (hx1.out wc) (hx2.out wc)) ((Same.refl _ _).alloc _)
            · intro ac wc hs hd hz hf hw K hK
              have p0 : ((.exl [X1, X2]) : SP).p (ac.eval (.tmp 63)) wc := hw 4 rfl
              obtain ⟨u0, e0⟩ : ∃ u, ac.eval (.tmp 63) = u := ⟨_, rfl⟩
              rw [e0] at p0
              clear hd hz hf hw
              simp only [Region.wanted, if_true, Oper.wp, execOp, resolve, List.map_toArray, List.map_cons, List.map_nil, Option.map_some, Option.map_none, e0]
              go_simp
              refine (op_v _ [37] _ _ p0).mono ?_
              rintro e wd ⟨vt, rfl, ht9, hs9⟩
              exact hK _ _ ht9 hs9
            · intro ac wc hs hd hz hf hw K hK
              have p0 : (.tab : SP).p (ac.eval (.tmp 59)) wc := hw 0 rfl
              obtain ⟨u0, e0⟩ : ∃ u, ac.eval (.tmp 59) = u := ⟨_, rfl⟩
              rw [e0] at p0
              have e1 : ac.eval (.tmp 60) = (.slice (some ⟨g0, 0, none⟩) 3 3) := hw 1 rfl
              have p2 : ((.tree (.mk 3 [37] .zero [X1, X2])) : SP).p (ac.eval (.tmp 64)) wc := hw 5 rfl
              obtain ⟨u2, e2⟩ : ∃ u, ac.eval (.tmp 64) = u := ⟨_, rfl⟩
              rw [e2] at p2
              clear hd hz hf hw
              simp only [Region.wanted, if_true, Oper.wp, execOp, resolve, List.map_toArray, List.map_cons, List.map_nil, Option.map_some, Option.map_none, e0, e1, e2]
              go_simp
              refine (EvR.out _ _ _ _ p0 p2 (RowR.keepAll Hrow.out hs)).mono ?_
              rintro e wd ⟨rfl, hs2⟩
              exact hK _ _ rfl hs2
            · intro ac wc hs hd hz hf hw K hK
              have e0 : ac.eval (.tmp 65) = (.tuple #[valV R.1, .int .i64 R.2]) := hw 6 rfl
              clear hd hz hf hw
              simp only [Region.wanted, if_true, Oper.wp, execOp, resolve, List.map_toArray, List.map_cons, List.map_nil, Option.map_some, Option.map_none, e0]
              go_simp
              exact hK _ _ rfl (Same.refl _ _)
            · intro ac wc hs hd hz hf hw K hK
              have e0 : ac.eval (.tmp 58) = (.tuple #[valV R.1, .int .i64 R.2]) := hw 7 rfl
              clear hd hz hf hw
              simp only [Region.wanted, if_true, Oper.wp, execOp, resolve, List.map_toArray, List.map_cons, List.map_nil, Option.map_some, Option.map_none, e0]
              go_simp
              exact hK _ _ rfl (Same.refl _ _)
            · intro ac wc hs hd hz hf hw K hK
              have e0 : ac.eval (.tmp 58) = (.tuple #[valV R.1, .int .i64 R.2]) := hw 7 rfl
              clear hd hz hf hw
              simp only [Region.wanted, if_true, Oper.wp, execOp, resolve, List.map_toArray, List.map_cons, List.map_nil, Option.map_some, Option.map_none, e0]
              go_simp
              exact hK _ _ rfl (Same.refl _ _)
            · intro ac wc hs hd hz hf hw K hK
              clear hd hz hf hw
              simp only [Region.wanted, if_true, Oper.wp, execOp, resolve, List.map_toArray, List.map_cons, List.map_nil, Option.map_some, Option.map_none]
              go_simp
              exact hK _ _ ⟨_, rfl, hs.size, Row.new wc _ (valCs .zero)⟩ ((Same.refl _ _).alloc _)
          · intro vs wR hvl hvp hsR
            rcases vs with _ | ⟨z0, _ | ⟨z1, _ | ⟨z2, _ | ⟨z3, _ | ⟨z4, _ | ⟨z5, _ | ⟨z6, _ | ⟨z7, _ | ⟨z8, _ | ⟨z9, _ | ⟨z10, _ | ⟨zz, zr⟩⟩⟩⟩⟩⟩⟩⟩⟩⟩⟩⟩
            rotate_right 1
            · simp at hvl
            · simp at hvl
            · simp at hvl
            · simp at hvl
            · simp at hvl
            · simp at hvl
            · simp at hvl
            · simp at hvl
            · simp at hvl
            · simp at hvl
            · simp at hvl
            · simp at hvl
            · have htb : (.tab : SP).p z0 wR := hvp 0 (by omega)
              obtain rfl : z1 = (.slice (some ⟨g0, 0, none⟩) 3 3) := hvp 1 (by omega)
              obtain rfl : z2 = (exV (.slice none 0 0) X1) := hvp 2 (by omega)
              obtain rfl : z3 = (exV (.slice none 0 0) X2) := hvp 3 (by omega)
              have hsl63 : ((.exl [X1, X2]) : SP).p z4 wR := hvp 4 (by omega)
              have htr64 : ((.tree (.mk 3 [37] .zero [X1, X2])) : SP).p z5 wR := hvp 5 (by omega)
              obtain rfl : z6 = (.tuple #[valV R.1, .int .i64 R.2]) := hvp 6 (by omega)
              obtain rfl : z7 = (.tuple #[valV R.1, .int .i64 R.2]) := hvp 7 (by omega)
              obtain rfl : z8 = (valV R.1) := hvp 8 (by omega)
              obtain rfl : z9 = (.int .i64 R.2) := hvp 9 (by omega)
              have hfr : ((.fresh W7.heap.size 23 (valCs .zero)) : SP).p z10 wR := hvp 10 (by omega)
              clear hvl hvp
              simp only [putAll, Act.put, List.setIfInBounds_toArray, List.set_cons_succ, List.set_cons_zero, List.take_succ_cons, List.take_zero, List.drop_succ_cons, List.drop_zero, List.eraseIdx_cons_succ, List.eraseIdx_cons_zero]
              obtain ⟨g, rfl, hg, hrg⟩ := hfr
              have y0 : wR.cell? ⟨g, 0, none⟩ = some (.int .i64 0) := hrg.cell 0
              have y1 : wR.cell? ⟨g, 1, none⟩ = some (.int .i64 0) := hrg.cell 1
              have y2 : wR.cell? ⟨g, 2, none⟩ = some (.string (str [])) := hrg.cell 2
              have x0 : wR.frozen? ⟨g, 0, none⟩ = false := hrg.frozen 0
              have x1 : wR.frozen? ⟨g, 1, none⟩ = false := hrg.frozen 1
              have x2 : wR.frozen? ⟨g, 2, none⟩ = false := hrg.frozen 2
              have Hrg := Lib.hid hrg
              have HsR := Lib.hid hsR
              have zG := hrg.lt
              clear hsR hrg 
              go_wp2
              go_meet
              exact ⟨_, g, rfl, rfl, rfl, hg, Hrg.out.set3 _, HsR.out.set3 (fun h => by omega) _ _ _⟩
          · intro vs wR hvl hvp hsR
            rcases vs with _ | ⟨z0, _ | ⟨z1, _ | ⟨z2, _ | ⟨z3, _ | ⟨z4, _ | ⟨z5, _ | ⟨z6, _ | ⟨z7, _ | ⟨z8, _ | ⟨z10, _ | ⟨zz, zr⟩⟩⟩⟩⟩⟩⟩⟩⟩⟩⟩
            rotate_right 1
            · simp at hvl
            · simp at hvl
            · simp at hvl
            · simp at hvl
            · simp at hvl
            · simp at hvl
            · simp at hvl
            · simp at hvl
            · simp at hvl
            · simp at hvl
            · simp at hvl
            · have htb : (.tab : SP).p z0 wR := hvp 0 (by omega)
              obtain rfl : z1 = (.slice (some ⟨g0, 0, none⟩) 3 3) := hvp 1 (by omega)
              obtain rfl : z2 = (exV (.slice none 0 0) X1) := hvp 2 (by omega)
              obtain rfl : z3 = (exV (.slice none 0 0) X2) := hvp 3 (by omega)
              have hsl63 : ((.exl [X1, X2]) : SP).p z4 wR := hvp 4 (by omega)
              have htr64 : ((.tree (.mk 3 [37] .zero [X1, X2])) : SP).p z5 wR := hvp 5 (by omega)
              obtain rfl : z6 = (.tuple #[valV R.1, .int .i64 R.2]) := hvp 6 (by omega)
              obtain rfl : z7 = (.tuple #[valV R.1, .int .i64 R.2]) := hvp 7 (by omega)
              obtain rfl : z8 = (valV R.1) := hvp 8 (by omega)
              have hfr : ((.fresh W7.heap.size 23 (valCs .zero)) : SP).p z10 wR := hvp 9 (by omega)
              clear hvl hvp
              simp only [putAll, Act.put, List.setIfInBounds_toArray, List.set_cons_succ, List.set_cons_zero, List.take_succ_cons, List.take_zero, List.drop_succ_cons, List.drop_zero, List.eraseIdx_cons_succ, List.eraseIdx_cons_zero]
              obtain ⟨g, rfl, hg, hrg⟩ := hfr
              have y0 : wR.cell? ⟨g, 0, none⟩ = some (.int .i64 0) := hrg.cell 0
              have y1 : wR.cell? ⟨g, 1, none⟩ = some (.int .i64 0) := hrg.cell 1
              have y2 : wR.cell? ⟨g, 2, none⟩ = some (.string (str [])) := hrg.cell 2
              have x0 : wR.frozen? ⟨g, 0, none⟩ = false := hrg.frozen 0
              have x1 : wR.frozen? ⟨g, 1, none⟩ = false := hrg.frozen 1
              have x2 : wR.frozen? ⟨g, 2, none⟩ = false := hrg.frozen 2
              have Hrg := Lib.hid hrg
              have HsR := Lib.hid hsR
              have zG := hrg.lt
              clear hsR hrg 
              go_wp2
              go_meet
              exact ⟨_, g, rfl, rfl, rfl, hg, Hrg.out.set3 _, HsR.out.set3 (fun h => by omega) _ _ _⟩
        case rest =>
          obtain ⟨W8, g8, rfl, rfl, rfl, hg8, hr8, hS8⟩ := hcut
          have hrow := RowR.keepAll Hrow.out hS8
          have hra := Hra.out.keep hS8 trivial
          have hrb := Hrb.out.keep hS8 trivial
          have hr5 := Hr5.out.keep hS8 trivial
          have hr6 := Hr6.out.keep hS8 trivial
          have hr7 := Hr7.out.keep hS8 trivial
          have HS8 := Lib.hid (HS7.out.trans hS8)
          clear hS8 Hra Hrb Hrow a0 a1 a2 a3 a4 a5 b0 b1 b2 b3 b4 b5 za zb Hr5 Hr6 Hr7
          have Hrow := Lib.hid hrow
          have Hr5 := Lib.hid hr5
          have Hr6 := Lib.hid hr6
          have Hr7 := Lib.hid hr7
          have Hr8 := Lib.hid hr8
          clear hrow hr5 hr6 hr7 hr8
          have a0 : W8.cell? ⟨p, 0, none⟩ = some (.int .i64 X1.kind) := hra.cell 0
          have a1 : W8.cell? ⟨p, 1, none⟩ = some (.string (str X1.s)) := hra.cell 1
          have a2 : W8.cell? ⟨p, 2, none⟩ = some (.int .i64 X1.v.kind) := hra.cell 2
          have a3 : W8.cell? ⟨p, 3, none⟩ = some (.int .i64 X1.v.n) := hra.cell 3
          have a4 : W8.cell? ⟨p, 4, none⟩ = some (.string (str X1.v.s)) := hra.cell 4
          have a5 : W8.cell? ⟨p, 5, none⟩ = some (.slice none 0 0) := hra.cell 5
          have b0 : W8.cell? ⟨p + 1, 0, none⟩ = some (.int .i64 X2.kind) := hrb.cell 0
          have b1 : W8.cell? ⟨p + 1, 1, none⟩ = some (.string (str X2.s)) := hrb.cell 1
          have b2 : W8.cell? ⟨p + 1, 2, none⟩ = some (.int .i64 X2.v.kind) := hrb.cell 2
          have b3 : W8.cell? ⟨p + 1, 3, none⟩ = some (.int .i64 X2.v.n) := hrb.cell 3
          have b4 : W8.cell? ⟨p + 1, 4, none⟩ = some (.string (str X2.v.s)) := hrb.cell 4
          have b5 : W8.cell? ⟨p + 1, 5, none⟩ = some (.slice none 0 0) := hrb.cell 5
          have za := hra.lt
          have zb := hrb.lt
          have Hra := Lib.hid hra
          have Hrb := Lib.hid hrb
          clear hra hrb
          go_wp2
          go_upto_region 9 with (fail)
          go_cut [16, 17] from 68 to 76 (fun vA vB wx => ∃ (W9 : World) (g : Nat), W9 = wx ∧ vA = .pointer (some ⟨g, 0, none⟩) ∧ vB = .int .i64 N.2 ∧ W8.heap.size ≤ g ∧ Row W9 g 23 (valCs N.1) ∧ Same (fun _ => True) W8 W9)
          case first =>
            refine wp_region_tail_d (L := [.of .tab, .eq (.slice (some ⟨g0, 0, none⟩) 3 3), .eq (exV (.slice none 0 0) X1), .of (.exl [X1]), .of (.tree (.mk 3 [78, 69, 71] .zero [X1])), .eq (.tuple #[valV N.1, .int .i64 N.2]), .eq (.tuple #[valV N.1, .int .i64 N.2]), .eq (valV N.1), .eq (.int .i64 N.2), .of (.fresh W8.heap.size 23 (valCs .zero))]) 10 8 (by omega) (by kernel_rfl) (by kernel_rfl) rfl rfl rfl rfl rfl rfl ?_ ?_ ?_
            · refine ⟨?_, ?_, ?_, ?_, ?_, ?_, ?_, ?_, ?_, ?_, trivial⟩
              · intro ac wc hs hd hz hf hw K hK
                clear hd hz hf hw
                simp only [Region.wanted, if_true, Oper.wp, execOp, resolve, List.map_toArray, List.map_cons, List.map_nil, Option.map_some, Option.map_none]
                go_simp
                refine (table_any _).mono ?_
                rintro e wd ⟨vt, rfl, ht9, hs9⟩
                exact hK _ _ ht9 hs9
              · intro ac wc hs hd hz hf hw K hK
                have e0 : ac.eval (.tmp 5) = (.slice (some ⟨g0, 0, none⟩) 3 3) := hf 5 rfl
                clear hd hz hf hw
                simp only [Region.wanted, if_true, Oper.wp, execOp, resolve, List.map_toArray, List.map_cons, List.map_nil, Option.map_some, Option.map_none, e0]
                go_simp
                exact hK _ _ rfl (Same.refl _ _)
              · intro ac wc hs hd hz hf hw K hK
                have e0 : ac.eval (.tmp 6) = (.pointer (some ⟨p, 0, none⟩)) := hf 6 rfl
                have m0 : wc.cell? ⟨p, 0, none⟩ = some (.int .i64 X1.kind) := hs.cell (p := ⟨p, 0, none⟩) trivial a0
                have m1 : wc.cell? ⟨p, 1, none⟩ = some (.string (str X1.s)) := hs.cell (p := ⟨p, 1, none⟩) trivial a1
                have m2 : wc.cell? ⟨p, 2, none⟩ = some (.int .i64 X1.v.kind) := hs.cell (p := ⟨p, 2, none⟩) trivial a2
                have m3 : wc.cell? ⟨p, 3, none⟩ = some (.int .i64 X1.v.n) := hs.cell (p := ⟨p, 3, none⟩) trivial a3
                have m4 : wc.cell? ⟨p, 4, none⟩ = some (.string (str X1.v.s)) := hs.cell (p := ⟨p, 4, none⟩) trivial a4
                have m5 : wc.cell? ⟨p, 5, none⟩ = some (.slice none 0 0) := hs.cell (p := ⟨p, 5, none⟩) trivial a5
                clear hd hz hf hw
                simp only [Region.wanted, if_true, Oper.wp, execOp, resolve, List.map_toArray, List.map_cons, List.map_nil, Option.map_some, Option.map_none, e0]
                go_simp
                exact hK _ _ rfl (Same.refl _ _)
              · intro ac wc hs hd hz hf hw K hK
                have e0 : ac.eval (.tmp 71) = (exV (.slice none 0 0) X1) := hw 2 rfl
                clear hd hz hf hw
                simp only [Region.wanted, if_true, Oper.wp, execOp, resolve, List.map_toArray, List.map_cons, List.map_nil, Option.map_some, Option.map_none, e0]
                go_simp
                exact hK _ _ (ExL.fresh1 wc (hx1.out wc)) ((Same.refl _ _).alloc _)
              · intro ac wc hs hd hz hf hw K hK
                have p0 : ((.exl [X1]) : SP).p (ac.eval (.tmp 72)) wc := hw 3 rfl
                obtain ⟨u0, e0⟩ : ∃ u, ac.eval (.tmp 72) = u := ⟨_, rfl⟩
                rw [e0] at p0
                clear hd hz hf hw
                simp only [Region.wanted, if_true, Oper.wp, execOp, resolve, List.map_toArray, List.map_cons, List.map_nil, Option.map_some, Option.map_none, e0]
                go_simp
                refine (op_v _ [78, 69, 71] _ _ p0).mono ?_
                rintro e wd ⟨vt, rfl, ht9, hs9⟩
                exact hK _ _ ht9 hs9
              · intro ac wc hs hd hz hf hw K hK
                have p0 : (.tab : SP).p (ac.eval (.tmp 69)) wc := hw 0 rfl
                obtain ⟨u0, e0⟩ : ∃ u, ac.eval (.tmp 69) = u := ⟨_, rfl⟩
                rw [e0] at p0
                have e1 : ac.eval (.tmp 70) = (.slice (some ⟨g0, 0, none⟩) 3 3) := hw 1 rfl
                have p2 : ((.tree (.mk 3 [78, 69, 71] .zero [X1])) : SP).p (ac.eval (.tmp 73)) wc := hw 4 rfl
                obtain ⟨u2, e2⟩ : ∃ u, ac.eval (.tmp 73) = u := ⟨_, rfl⟩
                rw [e2] at p2
                clear hd hz hf hw
                simp only [Region.wanted, if_true, Oper.wp, execOp, resolve, List.map_toArray, List.map_cons, List.map_nil, Option.map_some, Option.map_none, e0, e1, e2]
                go_simp
                refine (EvN.out _ _ _ _ p0 p2 (RowR.keepAll Hrow.out hs)).mono ?_
                rintro e wd ⟨rfl, hs2⟩
                exact hK _ _ rfl hs2
              · intro ac wc hs hd hz hf hw K hK
                have e0 : ac.eval (.tmp 74) = (.tuple #[valV N.1, .int .i64 N.2]) := hw 5 rfl
                clear hd hz hf hw
                simp only [Region.wanted, if_true, Oper.wp, execOp, resolve, List.map_toArray, List.map_cons, List.map_nil, Option.map_some, Option.map_none, e0]
                go_simp
                exact hK _ _ rfl (Same.refl _ _)
              · intro ac wc hs hd hz hf hw K hK
                have e0 : ac.eval (.tmp 68) = (.tuple #[valV N.1, .int .i64 N.2]) := hw 6 rfl
                clear hd hz hf hw
                simp only [Region.wanted, if_true, Oper.wp, execOp, resolve, List.map_toArray, List.map_cons, List.map_nil, Option.map_some, Option.map_none, e0]
                go_simp
                exact hK _ _ rfl (Same.refl _ _)
              · intro ac wc hs hd hz hf hw K hK
                have e0 : ac.eval (.tmp 68) = (.tuple #[valV N.1, .int .i64 N.2]) := hw 6 rfl
                clear hd hz hf hw
                simp only [Region.wanted, if_true, Oper.wp, execOp, resolve, List.map_toArray, List.map_cons, List.map_nil, Option.map_some, Option.map_none, e0]
                go_simp
                exact hK _ _ rfl (Same.refl _ _)
              · intro ac wc hs hd hz hf hw K hK
                clear hd hz hf hw
                simp only [Region.wanted, if_true, Oper.wp, execOp, resolve, List.map_toArray, List.map_cons, List.map_nil, Option.map_some, Option.map_none]
                go_simp
                exact hK _ _ ⟨_, rfl, hs.size, Row.new wc _ (valCs .zero)⟩ ((Same.refl _ _).alloc _)
            · intro vs wR hvl hvp hsR
              rcases vs with _ | ⟨z0, _ | ⟨z1, _ | ⟨z2, _ | ⟨z3, _ | ⟨z4, _ | ⟨z5, _ | ⟨z6, _ | ⟨z7, _ | ⟨z8, _ | ⟨z9, _ | ⟨zz, zr⟩⟩⟩⟩⟩⟩⟩⟩⟩⟩⟩
              rotate_right 1
              · simp at hvl
              · simp at hvl
              · simp at hvl
              · simp at hvl
              · simp at hvl
              · simp at hvl
              · simp at hvl
              · simp at hvl
              · simp at hvl
              · simp at hvl
              · simp at hvl
              · have htb : (.tab : SP).p z0 wR := hvp 0 (by omega)
                obtain rfl : z1 = (.slice (some ⟨g0, 0, none⟩) 3 3) := hvp 1 (by omega)
                obtain rfl : z2 = (exV (.slice none 0 0) X1) := hvp 2 (by omega)
                have hsl72 : ((.exl [X1]) : SP).p z3 wR := hvp 3 (by omega)
                have htr73 : ((.tree (.mk 3 [78, 69, 71] .zero [X1])) : SP).p z4 wR := hvp 4 (by omega)
                obtain rfl : z5 = (.tuple #[valV N.1, .int .i64 N.2]) := hvp 5 (by omega)
                obtain rfl : z6 = (.tuple #[valV N.1, .int .i64 N.2]) := hvp 6 (by omega)
                obtain rfl : z7 = (valV N.1) := hvp 7 (by omega)
                obtain rfl : z8 = (.int .i64 N.2) := hvp 8 (by omega)
                have hfr : ((.fresh W8.heap.size 23 (valCs .zero)) : SP).p z9 wR := hvp 9 (by omega)
                clear hvl hvp
                simp only [putAll, Act.put, List.setIfInBounds_toArray, List.set_cons_succ, List.set_cons_zero, List.take_succ_cons, List.take_zero, List.drop_succ_cons, List.drop_zero, List.eraseIdx_cons_succ, List.eraseIdx_cons_zero]
                obtain ⟨g, rfl, hg, hrg⟩ := hfr
                have y0 : wR.cell? ⟨g, 0, none⟩ = some (.int .i64 0) := hrg.cell 0
                have y1 : wR.cell? ⟨g, 1, none⟩ = some (.int .i64 0) := hrg.cell 1
                have y2 : wR.cell? ⟨g, 2, none⟩ = some (.string (str [])) := hrg.cell 2
                have x0 : wR.frozen? ⟨g, 0, none⟩ = false := hrg.frozen 0
                have x1 : wR.frozen? ⟨g, 1, none⟩ = false := hrg.frozen 1
                have x2 : wR.frozen? ⟨g, 2, none⟩ = false := hrg.frozen 2
                have Hrg := Lib.hid hrg
                have HsR := Lib.hid hsR
                have zG := hrg.lt
                clear hsR hrg 
                go_wp2
                go_meet
                exact ⟨_, g, rfl, rfl, rfl, hg, Hrg.out.set3 _, HsR.out.set3 (fun h => by omega) _ _ _⟩
            · intro vs wR hvl hvp hsR
              rcases vs with _ | ⟨z0, _ | ⟨z1, _ | ⟨z2, _ | ⟨z3, _ | ⟨z4, _ | ⟨z5, _ | ⟨z6, _ | ⟨z7, _ | ⟨z9, _ | ⟨zz, zr⟩⟩⟩⟩⟩⟩⟩⟩⟩⟩
              rotate_right 1
              · simp at hvl
              · simp at hvl
              · simp at hvl
              · simp at hvl
              · simp at hvl
              · simp at hvl
              · simp at hvl
              · simp at hvl
              · simp at hvl
              · simp at hvl
              · have htb : (.tab : SP).p z0 wR := hvp 0 (by omega)
                obtain rfl : z1 = (.slice (some ⟨g0, 0, none⟩) 3 3) := hvp 1 (by omega)
                obtain rfl : z2 = (exV (.slice none 0 0) X1) := hvp 2 (by omega)
                have hsl72 : ((.exl [X1]) : SP).p z3 wR := hvp 3 (by omega)
                have htr73 : ((.tree (.mk 3 [78, 69, 71] .zero [X1])) : SP).p z4 wR := hvp 4 (by omega)
                obtain rfl : z5 = (.tuple #[valV N.1, .int .i64 N.2]) := hvp 5 (by omega)
                obtain rfl : z6 = (.tuple #[valV N.1, .int .i64 N.2]) := hvp 6 (by omega)
                obtain rfl : z7 = (valV N.1) := hvp 7 (by omega)
                have hfr : ((.fresh W8.heap.size 23 (valCs .zero)) : SP).p z9 wR := hvp 8 (by omega)
                clear hvl hvp
                simp only [putAll, Act.put, List.setIfInBounds_toArray, List.set_cons_succ, List.set_cons_zero, List.take_succ_cons, List.take_zero, List.drop_succ_cons, List.drop_zero, List.eraseIdx_cons_succ, List.eraseIdx_cons_zero]
                obtain ⟨g, rfl, hg, hrg⟩ := hfr
                have y0 : wR.cell? ⟨g, 0, none⟩ = some (.int .i64 0) := hrg.cell 0
                have y1 : wR.cell? ⟨g, 1, none⟩ = some (.int .i64 0) := hrg.cell 1
                have y2 : wR.cell? ⟨g, 2, none⟩ = some (.string (str [])) := hrg.cell 2
                have x0 : wR.frozen? ⟨g, 0, none⟩ = false := hrg.frozen 0
                have x1 : wR.frozen? ⟨g, 1, none⟩ = false := hrg.frozen 1
                have x2 : wR.frozen? ⟨g, 2, none⟩ = false := hrg.frozen 2
                have Hrg := Lib.hid hrg
                have HsR := Lib.hid hsR
                have zG := hrg.lt
                clear hsR hrg 
                go_wp2
                go_meet
                exact ⟨_, g, rfl, rfl, rfl, hg, Hrg.out.set3 _, HsR.out.set3 (fun h => by omega) _ _ _⟩
          case rest =>
            obtain ⟨W9, g9, rfl, rfl, rfl, hg9, hr9, hS9⟩ := hcut
            have hrow := RowR.keepAll Hrow.out hS9
            have hra := Hra.out.keep hS9 trivial
            have hrb := Hrb.out.keep hS9 trivial
            have hr5 := Hr5.out.keep hS9 trivial
            have hr6 := Hr6.out.keep hS9 trivial
            have hr7 := Hr7.out.keep hS9 trivial
            have hr8 := Hr8.out.keep hS9 trivial
            have HS9 := Lib.hid (HS8.out.trans hS9)
            clear hS9 Hra Hrb Hrow a0 a1 a2 a3 a4 a5 b0 b1 b2 b3 b4 b5 za zb Hr5 Hr6 Hr7 Hr8
            have Hrow := Lib.hid hrow
            have Hr5 := Lib.hid hr5
            have Hr6 := Lib.hid hr6
            have Hr7 := Lib.hid hr7
            have Hr8 := Lib.hid hr8
            have Hr9 := Lib.hid hr9
            clear hrow hr5 hr6 hr7 hr8 hr9
            have a0 : W9.cell? ⟨p, 0, none⟩ = some (.int .i64 X1.kind) := hra.cell 0
            have a1 : W9.cell? ⟨p, 1, none⟩ = some (.string (str X1.s)) := hra.cell 1
            have a2 : W9.cell? ⟨p, 2, none⟩ = some (.int .i64 X1.v.kind) := hra.cell 2
            have a3 : W9.cell? ⟨p, 3, none⟩ = some (.int .i64 X1.v.n) := hra.cell 3
            have a4 : W9.cell? ⟨p, 4, none⟩ = some (.string (str X1.v.s)) := hra.cell 4
            have a5 : W9.cell? ⟨p, 5, none⟩ = some (.slice none 0 0) := hra.cell 5
            have b0 : W9.cell? ⟨p + 1, 0, none⟩ = some (.int .i64 X2.kind) := hrb.cell 0
            have b1 : W9.cell? ⟨p + 1, 1, none⟩ = some (.string (str X2.s)) := hrb.cell 1
            have b2 : W9.cell? ⟨p + 1, 2, none⟩ = some (.int .i64 X2.v.kind) := hrb.cell 2
            have b3 : W9.cell? ⟨p + 1, 3, none⟩ = some (.int .i64 X2.v.n) := hrb.cell 3
            have b4 : W9.cell? ⟨p + 1, 4, none⟩ = some (.string (str X2.v.s)) := hrb.cell 4
            have b5 : W9.cell? ⟨p + 1, 5, none⟩ = some (.slice none 0 0) := hrb.cell 5
            have za := hra.lt
            have zb := hrb.lt
            have Hra := Lib.hid hra
            have Hrb := Lib.hid hrb
            clear hra hrb
            clear a0 a1 a2 a3 a4 a5 b0 b1 b2 b3 b4 b5 za zb hx1 hx2 EvS EvD EvQ EvR EvN
            by_cases hfit : -9223372036854775808 ≤ a + b ∧ a + b ≤ 9223372036854775807
            · by_cases hb0 : b = 0
              · have hm : ¬ (a = -9223372036854775808 ∧ b = -1) := by omega
                by_cases ha0 : a = -9223372036854775808
                · obtain ⟨eS, eD⟩ := HF.out.s1 hfit
                  obtain ⟨eQ, eR⟩ := HF.out.q0 hb0
                  have eN := HF.out.n1 ha0
                  rw [eS] at Hr5 ⊢
                  rw [eD] at Hr6 ⊢
                  rw [eQ] at Hr7 ⊢
                  rw [eR] at Hr8 ⊢
                  rw [eN] at Hr9 ⊢
                  obtain ⟨⟨h1, h2⟩, h3, h4⟩ := HAB.out
                  have d1 : W9.cell? ⟨g6, 1, none⟩ = some (.int .i64 (a)) := Hr6.out.cell 1
                  have q1 : W9.cell? ⟨g7, 1, none⟩ = some (.int .i64 (0)) := Hr7.out.cell 1
                  have r1 : W9.cell? ⟨g8, 1, none⟩ = some (.int .i64 (0)) := Hr8.out.cell 1
                  have n1 : W9.cell? ⟨g9, 1, none⟩ = some (.int .i64 (0)) := Hr9.out.cell 1
                  have za := Hr6.out.lt
                  have ka : (a != -9223372036854775808) = false := by simp; exact ha0
                  have kb : (b == 0) = true := by simp; exact hb0
                  have kx : b = 0 := hb0
                  clear eS eD eQ eR eN hfit hm ha0 hb0 HF hBk kx
                  go_wp2
                  go_ret
                  exact ⟨rfl, HS9.out⟩
                · obtain ⟨eS, eD⟩ := HF.out.s1 hfit
                  obtain ⟨eQ, eR⟩ := HF.out.q0 hb0
                  have eN := HF.out.n2 ha0
                  rw [eS] at Hr5 ⊢
                  rw [eD] at Hr6 ⊢
                  rw [eQ] at Hr7 ⊢
                  rw [eR] at Hr8 ⊢
                  rw [eN] at Hr9 ⊢
                  obtain ⟨⟨h1, h2⟩, h3, h4⟩ := HAB.out
                  have d1 : W9.cell? ⟨g6, 1, none⟩ = some (.int .i64 (a)) := Hr6.out.cell 1
                  have q1 : W9.cell? ⟨g7, 1, none⟩ = some (.int .i64 (0)) := Hr7.out.cell 1
                  have r1 : W9.cell? ⟨g8, 1, none⟩ = some (.int .i64 (0)) := Hr8.out.cell 1
                  have n1 : W9.cell? ⟨g9, 1, none⟩ = some (.int .i64 (-a)) := Hr9.out.cell 1
                  have za := Hr6.out.lt
                  have h5 : -9223372036854775807 ≤ a := by omega
                  have h6 : -a ≤ 9223372036854775807 := by omega
                  have h7 : -9223372036854775808 ≤ -a := by omega
                  have ka : (a != -9223372036854775808) = true := by simp; exact ha0
                  have kb : (b == 0) = true := by simp; exact hb0
                  have kx : b = 0 := hb0
                  clear eS eD eQ eR eN hfit hm ha0 hb0 HF hBk kx
                  go_wp2
                  go_ret
                  exact ⟨rfl, HS9.out⟩
              · by_cases hm : a = -9223372036854775808 ∧ b = -1
                · exfalso; have := HAB.out; omega
                · by_cases ha0 : a = -9223372036854775808
                  · obtain ⟨eS, eD⟩ := HF.out.s1 hfit
                    have eQ := HF.out.q2 hb0 hm
                    have eR := HF.out.r1 hb0
                    have eN := HF.out.n1 ha0
                    rw [eS] at Hr5 ⊢
                    rw [eD] at Hr6 ⊢
                    rw [eQ] at Hr7 ⊢
                    rw [eR] at Hr8 ⊢
                    rw [eN] at Hr9 ⊢
                    obtain ⟨⟨h1, h2⟩, h3, h4⟩ := HAB.out
                    have d1 : W9.cell? ⟨g6, 1, none⟩ = some (.int .i64 (a)) := Hr6.out.cell 1
                    have q1 : W9.cell? ⟨g7, 1, none⟩ = some (.int .i64 (a.tdiv b)) := Hr7.out.cell 1
                    have r1 : W9.cell? ⟨g8, 1, none⟩ = some (.int .i64 (a.tmod b)) := Hr8.out.cell 1
                    have n1 : W9.cell? ⟨g9, 1, none⟩ = some (.int .i64 (0)) := Hr9.out.cell 1
                    have za := Hr6.out.lt
                    have ka : (a != -9223372036854775808) = false := by simp; exact ha0
                    have kb : (b == 0) = false := by simp; exact hb0
                    obtain ⟨m1, m2, m3, m4⟩ := hBk.out hb0
                    generalize a.tdiv b = qq at *
                    generalize a.tmod b = rr at *
                    have k3 : (qq * b + rr == a) = true := by simp; exact m3
                    have m5 : -9223372036854775808 ≤ qq * b + rr := by omega
                    have m6 : qq * b + rr ≤ 9223372036854775807 := by omega
                    have k4 : (rr == 0) = true ∨ ((rr == 0) = false ∧ decide (rr < 0) = true ∧ decide (a < 0) = true) ∨ ((rr == 0) = false ∧ decide (rr < 0) = false ∧ decide (a < 0) = false) := by
                      by_cases hz : rr = 0
                      · exact .inl (by simp; exact hz)
                      · have hz2 : (rr == 0) = false := by simp; exact hz
                        rcases m4 with h | h
                        · exact absurd h hz
                        · by_cases hn : a < 0
                          · exact .inr (.inl ⟨hz2, by simp; exact h.2 hn, by simp; exact hn⟩)
                          · exact .inr (.inr ⟨hz2, by simp; omega, by simp; omega⟩)
                    clear eS eD eQ eR eN hfit hm ha0 hb0 HF hBk m3 m4
                    rcases k4 with k4 | ⟨k4, k5, k6⟩ | ⟨k4, k5, k6⟩
                    all_goals
                      go_wp2
                      go_ret
                      exact ⟨rfl, HS9.out⟩
                  · obtain ⟨eS, eD⟩ := HF.out.s1 hfit
                    have eQ := HF.out.q2 hb0 hm
                    have eR := HF.out.r1 hb0
                    have eN := HF.out.n2 ha0
                    rw [eS] at Hr5 ⊢
                    rw [eD] at Hr6 ⊢
                    rw [eQ] at Hr7 ⊢
                    rw [eR] at Hr8 ⊢
                    rw [eN] at Hr9 ⊢
                    obtain ⟨⟨h1, h2⟩, h3, h4⟩ := HAB.out
                    have d1 : W9.cell? ⟨g6, 1, none⟩ = some (.int .i64 (a)) := Hr6.out.cell 1
                    have q1 : W9.cell? ⟨g7, 1, none⟩ = some (.int .i64 (a.tdiv b)) := Hr7.out.cell 1
                    have r1 : W9.cell? ⟨g8, 1, none⟩ = some (.int .i64 (a.tmod b)) := Hr8.out.cell 1
                    have n1 : W9.cell? ⟨g9, 1, none⟩ = some (.int .i64 (-a)) := Hr9.out.cell 1
                    have za := Hr6.out.lt
                    have h5 : -9223372036854775807 ≤ a := by omega
                    have h6 : -a ≤ 9223372036854775807 := by omega
                    have h7 : -9223372036854775808 ≤ -a := by omega
                    have ka : (a != -9223372036854775808) = true := by simp; exact ha0
                    have kb : (b == 0) = false := by simp; exact hb0
                    obtain ⟨m1, m2, m3, m4⟩ := hBk.out hb0
                    generalize a.tdiv b = qq at *
                    generalize a.tmod b = rr at *
                    have k3 : (qq * b + rr == a) = true := by simp; exact m3
                    have m5 : -9223372036854775808 ≤ qq * b + rr := by omega
                    have m6 : qq * b + rr ≤ 9223372036854775807 := by omega
                    have k4 : (rr == 0) = true ∨ ((rr == 0) = false ∧ decide (rr < 0) = true ∧ decide (a < 0) = true) ∨ ((rr == 0) = false ∧ decide (rr < 0) = false ∧ decide (a < 0) = false) := by
                      by_cases hz : rr = 0
                      · exact .inl (by simp; exact hz)
                      · have hz2 : (rr == 0) = false := by simp; exact hz
                        rcases m4 with h | h
                        · exact absurd h hz
                        · by_cases hn : a < 0
                          · exact .inr (.inl ⟨hz2, by simp; exact h.2 hn, by simp; exact hn⟩)
                          · exact .inr (.inr ⟨hz2, by simp; omega, by simp; omega⟩)
                    clear eS eD eQ eR eN hfit hm ha0 hb0 HF hBk m3 m4
                    rcases k4 with k4 | ⟨k4, k5, k6⟩ | ⟨k4, k5, k6⟩
                    all_goals
                      go_wp2
                      go_ret
                      exact ⟨rfl, HS9.out⟩
            · by_cases hb0 : b = 0
              · exfalso; have := HAB.out; omega
              · by_cases hm : a = -9223372036854775808 ∧ b = -1
                · have ha0 := hm.1
                  obtain ⟨eS, eD⟩ := HF.out.s2 hfit
                  have eQ := HF.out.q1 hm.1 hm.2
                  have eR := HF.out.r1 hb0
                  have eN := HF.out.n1 ha0
                  rw [eS] at Hr5 ⊢
                  rw [eD] at Hr6 ⊢
                  rw [eQ] at Hr7 ⊢
                  rw [eR] at Hr8 ⊢
                  rw [eN] at Hr9 ⊢
                  obtain ⟨⟨h1, h2⟩, h3, h4⟩ := HAB.out
                  have d1 : W9.cell? ⟨g6, 1, none⟩ = some (.int .i64 (0)) := Hr6.out.cell 1
                  have q1 : W9.cell? ⟨g7, 1, none⟩ = some (.int .i64 (0)) := Hr7.out.cell 1
                  have r1 : W9.cell? ⟨g8, 1, none⟩ = some (.int .i64 (a.tmod b)) := Hr8.out.cell 1
                  have n1 : W9.cell? ⟨g9, 1, none⟩ = some (.int .i64 (0)) := Hr9.out.cell 1
                  have za := Hr6.out.lt
                  have ka : (a != -9223372036854775808) = false := by simp; exact ha0
                  have kb : (b == 0) = false := by simp; exact hb0
                  have kc : (b == -1) = true := by simp; exact hm.2
                  have kd : (a == -9223372036854775808) = true := by simp; exact hm.1
                  clear eS eD eQ eR eN hfit hm ha0 hb0 HF hBk
                  go_wp2
                  go_ret
                  exact ⟨rfl, HS9.out⟩
                · by_cases ha0 : a = -9223372036854775808
                  · obtain ⟨eS, eD⟩ := HF.out.s2 hfit
                    have eQ := HF.out.q2 hb0 hm
                    have eR := HF.out.r1 hb0
                    have eN := HF.out.n1 ha0
                    rw [eS] at Hr5 ⊢
                    rw [eD] at Hr6 ⊢
                    rw [eQ] at Hr7 ⊢
                    rw [eR] at Hr8 ⊢
                    rw [eN] at Hr9 ⊢
                    obtain ⟨⟨h1, h2⟩, h3, h4⟩ := HAB.out
                    have d1 : W9.cell? ⟨g6, 1, none⟩ = some (.int .i64 (0)) := Hr6.out.cell 1
                    have q1 : W9.cell? ⟨g7, 1, none⟩ = some (.int .i64 (a.tdiv b)) := Hr7.out.cell 1
                    have r1 : W9.cell? ⟨g8, 1, none⟩ = some (.int .i64 (a.tmod b)) := Hr8.out.cell 1
                    have n1 : W9.cell? ⟨g9, 1, none⟩ = some (.int .i64 (0)) := Hr9.out.cell 1
                    have za := Hr6.out.lt
                    have ka : (a != -9223372036854775808) = false := by simp; exact ha0
                    have kb : (b == 0) = false := by simp; exact hb0
                    obtain ⟨m1, m2, m3, m4⟩ := hBk.out hb0
                    generalize a.tdiv b = qq at *
                    generalize a.tmod b = rr at *
                    have k3 : (qq * b + rr == a) = true := by simp; exact m3
                    have m5 : -9223372036854775808 ≤ qq * b + rr := by omega
                    have m6 : qq * b + rr ≤ 9223372036854775807 := by omega
                    have k4 : (rr == 0) = true ∨ ((rr == 0) = false ∧ decide (rr < 0) = true ∧ decide (a < 0) = true) ∨ ((rr == 0) = false ∧ decide (rr < 0) = false ∧ decide (a < 0) = false) := by
                      by_cases hz : rr = 0
                      · exact .inl (by simp; exact hz)
                      · have hz2 : (rr == 0) = false := by simp; exact hz
                        rcases m4 with h | h
                        · exact absurd h hz
                        · by_cases hn : a < 0
                          · exact .inr (.inl ⟨hz2, by simp; exact h.2 hn, by simp; exact hn⟩)
                          · exact .inr (.inr ⟨hz2, by simp; omega, by simp; omega⟩)
                    clear eS eD eQ eR eN hfit hm ha0 hb0 HF hBk m3 m4
                    rcases k4 with k4 | ⟨k4, k5, k6⟩ | ⟨k4, k5, k6⟩
                    all_goals
                      go_wp2
                      go_ret
                      exact ⟨rfl, HS9.out⟩
                  · obtain ⟨eS, eD⟩ := HF.out.s2 hfit
                    have eQ := HF.out.q2 hb0 hm
                    have eR := HF.out.r1 hb0
                    have eN := HF.out.n2 ha0
                    rw [eS] at Hr5 ⊢
                    rw [eD] at Hr6 ⊢
                    rw [eQ] at Hr7 ⊢
                    rw [eR] at Hr8 ⊢
                    rw [eN] at Hr9 ⊢
                    obtain ⟨⟨h1, h2⟩, h3, h4⟩ := HAB.out
                    have d1 : W9.cell? ⟨g6, 1, none⟩ = some (.int .i64 (0)) := Hr6.out.cell 1
                    have q1 : W9.cell? ⟨g7, 1, none⟩ = some (.int .i64 (a.tdiv b)) := Hr7.out.cell 1
                    have r1 : W9.cell? ⟨g8, 1, none⟩ = some (.int .i64 (a.tmod b)) := Hr8.out.cell 1
                    have n1 : W9.cell? ⟨g9, 1, none⟩ = some (.int .i64 (-a)) := Hr9.out.cell 1
                    have za := Hr6.out.lt
                    have h5 : -9223372036854775807 ≤ a := by omega
                    have h6 : -a ≤ 9223372036854775807 := by omega
                    have h7 : -9223372036854775808 ≤ -a := by omega
                    have ka : (a != -9223372036854775808) = true := by simp; exact ha0
                    have kb : (b == 0) = false := by simp; exact hb0
                    obtain ⟨m1, m2, m3, m4⟩ := hBk.out hb0
                    generalize a.tdiv b = qq at *
                    generalize a.tmod b = rr at *
                    have k3 : (qq * b + rr == a) = true := by simp; exact m3
                    have m5 : -9223372036854775808 ≤ qq * b + rr := by omega
                    have m6 : qq * b + rr ≤ 9223372036854775807 := by omega
                    have k4 : (rr == 0) = true ∨ ((rr == 0) = false ∧ decide (rr < 0) = true ∧ decide (a < 0) = true) ∨ ((rr == 0) = false ∧ decide (rr < 0) = false ∧ decide (a < 0) = false) := by
                      by_cases hz : rr = 0
                      · exact .inl (by simp; exact hz)
                      · have hz2 : (rr == 0) = false := by simp; exact hz
                        rcases m4 with h | h
                        · exact absurd h hz
                        · by_cases hn : a < 0
                          · exact .inr (.inl ⟨hz2, by simp; exact h.2 hn, by simp; exact hn⟩)
                          · exact .inr (.inr ⟨hz2, by simp; omega, by simp; omega⟩)
                    clear eS eD eQ eR eN hfit hm ha0 hb0 HF hBk m3 m4
                    rcases k4 with k4 | ⟨k4, k5, k6⟩ | ⟨k4, k5, k6⟩
                    all_goals
                      go_wp2
                      go_ret
                      exact ⟨rfl, HS9.out⟩
end Go.Proofs.Ytakbikibahhepaa
