/-
  The walk of ExprNull.
-/
import Derived.Test.YtakbikibahhepaaExL8
set_option linter.unusedSimpArgs false
set_option linter.unusedVariables false
namespace Go.Proofs.Ytakbikibahhepaa
open Go.RowKit

def sumsL : List (List UInt8) := [[43], [45], [42], [47], [37], [61], [60, 62], [60], [60, 61], [62], [62, 61]]
theorem sums_at {k : Nat} (h : k < sumsL.length) : sumO (opk sumsL[k]) = true := by
  have : ∀ s ∈ sumsL, sumO (opk s) = true := by decide
  exact this _ (List.getElem_mem h)
theorem turn11 (n : Int) : (-11 < n.tmod 11 ∧ n.tmod 11 < 11) ∧ ∃ k : Nat, k < 11 ∧ (n.tmod 11 + 11).tmod 11 = (k : Int) := by
  have h1 : n.tmod 11 < 11 := Int.tmod_lt_of_pos n (by decide)
  have h2 : -11 < n.tmod 11 := Int.lt_tmod_of_pos n (by decide)
  refine ⟨⟨h2, h1⟩, ((n.tmod 11 + 11) % 11).toNat, ?_, ?_⟩
  · omega
  · rw [Int.tmod_eq_emod_of_nonneg (by omega)]; omega
set_option maxRecDepth 100000 in
set_option maxHeartbeats 16000000 in
theorem null_walk (u rv : Value) (e : Ex) (n : Int) (row : List Val) (w : World) (hv : ExR w (fun _ => True) u e) (hrow : VaR w (fun _ => True) rv row) (hei : ExI e) (hri : ∀ x ∈ row, i64B x.n = true) :
    Calls Try.prog 8 #[exV u e, .int .i64 n, rv] w (BoolP true w) := by
  obtain ⟨A, c, rfl, hc, hm⟩ := hv.toL.form
  obtain ⟨Ar, cr, rfl, hrc, hrm⟩ := hrow.form
  unfold maxLen at hm hrm
  obtain ⟨⟨n1, n2⟩, kx, hkx, hnk⟩ := turn11 n
  have hNF := fun s hs hd hz => null_facts cols3 row e s hs hd hz
  have hS0 := (Same.refl (fun _ => True) w).alloc (.cells (exCs (.slice A e.args.length c) e).toArray 26)
  have hre := Row.new w 26 (exCs (.slice A e.args.length c) e)
  have hls := light_size e 100
  have hli := fun W h => light_any (fun _ => True) e (.slice A e.args.length c) 100 W h (by omega)
  have hde := fun hs W h => deep_any (fun _ => True) e hs (.slice A e.args.length c) W h
  obtain ⟨L, hL⟩ : ∃ L, lightF e 100 = L := ⟨_, rfl⟩
  obtain ⟨D, hD⟩ : ∃ D, e.deep = D := ⟨_, rfl⟩
  rw [hL] at hls hli
  rw [hD] at hde hNF
  have HNF := Lib.hid hNF
  have Hls := Lib.hid hls
  have Hde := Lib.hid hde
  have HS0 := Lib.hid hS0
  have Hre := Lib.hid hre
  have Hv := Lib.hid hv
  have Hrow := Lib.hid hrow
  have Hei := Lib.hid hei
  have Hri := Lib.hid hri
  clear hL hD hNF hS0 hre hls hv hrow hei hri hde
  go_enter Try.func8, Try.ntmps8
  go_wp2_with (go_at_call 10; refine stopAt ?_)
  unfold Hid
  refine (begun_any _).mono ?_
  rintro e' w1 ⟨rfl, hS1⟩
  have hre1 := Hre.out.keep hS1 trivial
  have k0 : w1.cell? ⟨w.heap.size, 0, none⟩ = some (.int .i64 e.kind) := hre1.cell 0
  have k1 : w1.cell? ⟨w.heap.size, 1, none⟩ = some (.string (str e.s)) := hre1.cell 1
  have k2 : w1.cell? ⟨w.heap.size, 2, none⟩ = some (.int .i64 e.v.kind) := hre1.cell 2
  have k3 : w1.cell? ⟨w.heap.size, 3, none⟩ = some (.int .i64 e.v.n) := hre1.cell 3
  have k4 : w1.cell? ⟨w.heap.size, 4, none⟩ = some (.string (str e.v.s)) := hre1.cell 4
  have k5 : w1.cell? ⟨w.heap.size, 5, none⟩ = some (.slice A e.args.length c) := hre1.cell 5
  have HS1 := Lib.hid (HS0.out.trans hS1)
  have Hre1 := Lib.hid hre1
  have z1 := hre1.lt
  have hl1 := hli w1 (Hv.out.keepAll HS1.out)
  clear hS1 hre1 hli
  by_cases hL0 : L = 0
  · subst hL0
    go_wp2_with (go_at_call 11; refine stopAt ?_)
    unfold Hid
    refine hl1.mono ?_
    rintro e' w2 ⟨rfl, hS2⟩
    have HS2 := Lib.hid hS2
    clear hS2 hl1
    go_wp2
    go_ret
    exact ⟨rfl, HS1.out.trans HS2.out⟩
  have hsz : e.size ≤ 100 := by have := Hls.out hL0; omega
  have Hsz := Lib.hid hsz
  have bL : ((L : Int) == 0) = false := by simp; omega
  clear hL0 hsz
  go_wp2_with (go_at_call 11; refine stopAt ?_)
  unfold Hid
  refine hl1.mono ?_
  rintro e' w2 ⟨rfl, hS2⟩
  have HS2 := Lib.hid (HS1.out.trans hS2)
  have hre2 := Hre1.out.keep hS2 trivial
  have k0 : w2.cell? ⟨w.heap.size, 0, none⟩ = some (.int .i64 e.kind) := hre2.cell 0
  have k1 : w2.cell? ⟨w.heap.size, 1, none⟩ = some (.string (str e.s)) := hre2.cell 1
  have k2 : w2.cell? ⟨w.heap.size, 2, none⟩ = some (.int .i64 e.v.kind) := hre2.cell 2
  have k3 : w2.cell? ⟨w.heap.size, 3, none⟩ = some (.int .i64 e.v.n) := hre2.cell 3
  have k4 : w2.cell? ⟨w.heap.size, 4, none⟩ = some (.string (str e.v.s)) := hre2.cell 4
  have k5 : w2.cell? ⟨w.heap.size, 5, none⟩ = some (.slice A e.args.length c) := hre2.cell 5
  have z2 := hre2.lt
  have Hre2 := Lib.hid hre2
  have hd2 := Hde.out (by have := Hsz.out; omega) w2 (Hv.out.keepAll HS2.out)
  clear hS2 hl1 hre2 z1 Hde
  go_wp2_with (go_at_call 19; refine stopAt ?_)
  unfold Hid
  refine hd2.mono ?_
  rintro e' W2 ⟨rfl, hS2⟩
  have HS3 := Lib.hid (HS2.out.trans hS2)
  have hre3 := Hre2.out.keep hS2 trivial
  have z3 := hre3.lt
  have Hre3 := Lib.hid hre3
  clear hS2 hd2 hre3 z2 k0 k1 k2 k3 k4 k5
  by_cases hd50 : 50 < D
  · have x1 : (50 : Int) < (D : Int) := by omega
    clear hd50
    go_wp2
    go_ret
    exact ⟨rfl, HS3.out⟩
  have x0 : (D : Int) ≤ 50 := by omega
  by_cases hr12 : 12 < row.length
  · have x1 : (12 : Int) < (row.length : Int) := by omega
    clear hr12
    go_wp2
    go_ret
    exact ⟨rfl, HS3.out⟩
  have x1 : (row.length : Int) ≤ 12 := by omega
  have HNF2 : Hid (∀ s, sumO (opk s) = true → _) := Lib.hid fun s hs => HNF.out s hs (by omega) Hsz.out
  clear hr12 hd50 HNF
  go_upto_region 6 with (fail)
  have hS4 := (Same.refl (fun _ => True) W2).alloc (.cells (sumsL.map fun s => Value.string (str s)).toArray 9)
  have hrs := Row.new W2 9 (sumsL.map fun s => Value.string (str s))
  obtain ⟨W3, hW3⟩ : ∃ W3, W3 = W2.alloc (.cells (sumsL.map fun s => Value.string (str s)).toArray 9) := ⟨_, rfl⟩
  have e0 : W3 = W2.alloc (.cells #[.string ⟨#[43]⟩, .string ⟨#[45]⟩, .string ⟨#[42]⟩, .string ⟨#[47]⟩, .string ⟨#[37]⟩, .string ⟨#[61]⟩, .string ⟨#[60, 62]⟩, .string ⟨#[60]⟩, .string ⟨#[60, 61]⟩, .string ⟨#[62]⟩, .string ⟨#[62, 61]⟩] 9) := hW3
  rw [← hW3] at hS4 hrs
  rw [← e0]
  have hre4 := Hre3.out.keep hS4 trivial
  have hkl : kx < sumsL.length := hkx
  have hsO := sums_at hkl
  have d0 := hrs.cell kx
  rw [List.getElem?_map, List.getElem?_eq_getElem hkl] at d0
  obtain ⟨ad, had⟩ : ∃ ad, ad = (⟨W2.heap.size, 0, none⟩ : Addr) := ⟨_, rfl⟩
  rw [show (⟨W2.heap.size, kx, none⟩ : Addr) = ad.add kx from by rw [had, add_none, Nat.zero_add]] at d0
  rw [← had]
  generalize sumsL[kx] = s at hsO d0
  have d0 : W3.cell? (ad.add kx) = some (.string (str s)) := d0
  have hNs := HNF2.out s hsO
  have HS4 := Lib.hid (HS3.out.trans hS4)
  have Hre4 := Lib.hid hre4
  have hab := World.block_lt_of_cell? W3 _ d0
  have m1 : -9223372036854775808 ≤ n.tmod 11 + 11 := by omega
  have m2 : n.tmod 11 + 11 ≤ 9223372036854775807 := by omega
  have m3 : (0 : Int) ≤ (kx : Int) := by omega
  have m4 : (kx : Int) < 11 := by omega
  have hl1 : ∀ W, Calls Try.prog 22 #[.agg #[.int .i64 0, .int .i64 0, .string ⟨#[]⟩]] W (fun e w' => e = .returned (exV (.slice none 0 0) nullE) ∧ Same (fun _ => True) W w') := fun W => lit_any .zero W
  obtain ⟨X2, hX2⟩ : ∃ X, nullE = X := ⟨_, rfl⟩
  have hx2 : Hid (∀ W, ExR W (fun _ => True) (.slice none 0 0) X2) := Lib.hid fun W => by rw [← hX2]; exact ExR.leaf _ _ _ _ _
  have hi2 : ExI X2 := by rw [← hX2]; exact .leaf _ _ rfl
  have hz2 : X2.size = 1 := by rw [← hX2]; rfl
  rw [hX2] at hl1 hNs
  have HNs := Lib.hid hNs
  have Hi2 := Lib.hid hi2
  have Hz2 := Lib.hid hz2
  clear hS4 hre4 hrs hW3 e0 had hsO hNs HNF2 hX2 hi2 hz2 n1 n2 hkx hkl
  go_wp2_with (go_at_call 22; refine stopAt ?_)
  unfold Hid
  refine (hl1 _).mono ?_
  rintro e' W4 ⟨rfl, hS5⟩
  go_upto_region 8 with (fail)
  have hSb := (Same.refl (fun _ => True) W4).alloc (.cells (exCs (.slice none 0 0) X2).toArray 26)
  have hrn := Row.new W4 26 (exCs (.slice none 0 0) X2)
  obtain ⟨W5, hW5⟩ : ∃ W5, W5 = W4.alloc (.cells (exCs (.slice none 0 0) X2).toArray 26) := ⟨_, rfl⟩
  have e0 := hW5
  rw [← hW5] at hSb hrn
  simp only [exCs] at e0
  rw [← e0]
  have HS5 := Lib.hid (HS4.out.trans (hS5.trans hSb))
  have hre := Hre4.out.keep (hS5.trans hSb) trivial
  have hNs := HNs.out
  simp only [opE] at hNs
  clear e0 hW5 hSb hS5 hl1 d0 hab HNs
  generalize W4.heap.size = p at *
  have evV := fun (W : World) (v rv t : Value) (h1 : TabVal W v) (h2 : TreeVal W t (.mk 3 s .zero [e, X2])) (h3 : VaR W (fun _ => True) rv row) => evalw_any v rv t row (.mk 3 s .zero [e, X2]) W h1 h3 h2 (by have := Hsz.out; have := Hz2.out; simp only [Ex.size, sizeL]; omega) (.two _ Hei.out Hi2.out) Hri.out
  obtain ⟨V, hV⟩ : ∃ X, evalTF cols3 row (.mk 3 s .zero [e, X2]) = X := ⟨_, rfl⟩
  rw [hV] at evV hNs
  have EvV := Lib.hid evV
  clear hV evV
  have evU := fun (W : World) (v rv t : Value) (h1 : TabVal W v) (h2 : TreeVal W t (.mk 3 s .zero [X2, e])) (h3 : VaR W (fun _ => True) rv row) => evalw_any v rv t row (.mk 3 s .zero [X2, e]) W h1 h3 h2 (by have := Hsz.out; have := Hz2.out; simp only [Ex.size, sizeL]; omega) (.two _ Hi2.out Hei.out) Hri.out
  obtain ⟨U, hU⟩ : ∃ X, evalTF cols3 row (.mk 3 s .zero [X2, e]) = X := ⟨_, rfl⟩
  rw [hU] at evU hNs
  have EvU := Lib.hid evU
  clear hU evU
  have evN := fun (W : World) (v rv t : Value) (h1 : TabVal W v) (h2 : TreeVal W t (.mk 3 [73, 83, 78, 85, 76, 76] .zero [.mk 3 s .zero [e, X2]])) (h3 : VaR W (fun _ => True) rv row) => evalw_any v rv t row (.mk 3 [73, 83, 78, 85, 76, 76] .zero [.mk 3 s .zero [e, X2]]) W h1 h3 h2 (by have := Hsz.out; have := Hz2.out; simp only [Ex.size, sizeL]; omega) (.one _ (.two _ Hei.out Hi2.out)) Hri.out
  obtain ⟨N, hN⟩ : ∃ X, evalTF cols3 row (.mk 3 [73, 83, 78, 85, 76, 76] .zero [.mk 3 s .zero [e, X2]]) = X := ⟨_, rfl⟩
  rw [hN] at evN hNs
  have EvN := Lib.hid evN
  clear hN evN
  have evX := fun (W : World) (v rv t : Value) (h1 : TabVal W v) (h2 : TreeVal W t e) (h3 : VaR W (fun _ => True) rv row) => evalw_any v rv t row e W h1 h3 h2 (by have := Hsz.out; omega) (Hei.out) Hri.out
  obtain ⟨X, hX⟩ : ∃ X, evalTF cols3 row e = X := ⟨_, rfl⟩
  rw [hX] at evX hNs
  have EvX := Lib.hid evX
  clear hX evX
  have evY := fun (W : World) (v rv t : Value) (h1 : TabVal W v) (h2 : TreeVal W t (.mk 3 [73, 83, 78, 85, 76, 76] .zero [e])) (h3 : VaR W (fun _ => True) rv row) => evalw_any v rv t row (.mk 3 [73, 83, 78, 85, 76, 76] .zero [e]) W h1 h3 h2 (by have := Hsz.out; have := Hz2.out; simp only [Ex.size, sizeL]; omega) (.one _ Hei.out) Hri.out
  obtain ⟨Y, hY⟩ : ∃ X, evalTF cols3 row (.mk 3 [73, 83, 78, 85, 76, 76] .zero [e]) = X := ⟨_, rfl⟩
  rw [hY] at evY hNs
  have EvY := Lib.hid evY
  clear hY evY
  have evZ := fun (W : World) (v rv t : Value) (h1 : TabVal W v) (h2 : TreeVal W t (.mk 3 [78, 79, 84, 78, 85, 76, 76] .zero [e])) (h3 : VaR W (fun _ => True) rv row) => evalw_any v rv t row (.mk 3 [78, 79, 84, 78, 85, 76, 76] .zero [e]) W h1 h3 h2 (by have := Hsz.out; have := Hz2.out; simp only [Ex.size, sizeL]; omega) (.one _ Hei.out) Hri.out
  obtain ⟨Z, hZ⟩ : ∃ X, evalTF cols3 row (.mk 3 [78, 79, 84, 78, 85, 76, 76] .zero [e]) = X := ⟨_, rfl⟩
  rw [hZ] at evZ hNs
  have EvZ := Lib.hid evZ
  clear hZ evZ
  have HNs := Lib.hid hNs
  clear hNs
  have k0 : W5.cell? ⟨w.heap.size, 0, none⟩ = some (.int .i64 e.kind) := hre.cell 0
  have k1 : W5.cell? ⟨w.heap.size, 1, none⟩ = some (.string (str e.s)) := hre.cell 1
  have k2 : W5.cell? ⟨w.heap.size, 2, none⟩ = some (.int .i64 e.v.kind) := hre.cell 2
  have k3 : W5.cell? ⟨w.heap.size, 3, none⟩ = some (.int .i64 e.v.n) := hre.cell 3
  have k4 : W5.cell? ⟨w.heap.size, 4, none⟩ = some (.string (str e.v.s)) := hre.cell 4
  have k5 : W5.cell? ⟨w.heap.size, 5, none⟩ = some (.slice A e.args.length c) := hre.cell 5
  have n0 : W5.cell? ⟨p, 0, none⟩ = some (.int .i64 X2.kind) := hrn.cell 0
  have n1 : W5.cell? ⟨p, 1, none⟩ = some (.string (str X2.s)) := hrn.cell 1
  have n2 : W5.cell? ⟨p, 2, none⟩ = some (.int .i64 X2.v.kind) := hrn.cell 2
  have n3 : W5.cell? ⟨p, 3, none⟩ = some (.int .i64 X2.v.n) := hrn.cell 3
  have n4 : W5.cell? ⟨p, 4, none⟩ = some (.string (str X2.v.s)) := hrn.cell 4
  have n5 : W5.cell? ⟨p, 5, none⟩ = some (.slice none 0 0) := hrn.cell 5
  have zk := hre.lt
  have zn := hrn.lt
  have Hre := Lib.hid hre
  have Hrn := Lib.hid hrn
  clear hre hrn
  go_upto_region 8 with (fail)
  go_cut [10, 11] from 53 to 63 (fun vA vB wx => ∃ (W6 : World) (g : Nat), W6 = wx ∧ vA = .pointer (some ⟨g, 0, none⟩) ∧ vB = .int .i64 V.2 ∧ W5.heap.size ≤ g ∧ Row W6 g 23 (valCs V.1) ∧ Same (fun _ => True) W5 W6)
  case first =>
    refine wp_region_tail_d (L := [.of .tab, .eq (.slice Ar row.length cr), .eq (.string (str s)), .eq (exV (.slice A e.args.length c) e), .eq (exV (.slice none 0 0) X2), .of (.exl [e, X2]), .of (.tree (.mk 3 s .zero [e, X2])), .eq (.tuple #[valV V.1, .int .i64 V.2]), .eq (.tuple #[valV V.1, .int .i64 V.2]), .eq (valV V.1), .eq (.int .i64 V.2), .of (.fresh W5.heap.size 23 (valCs .zero))]) 12 10 (by omega) (by kernel_rfl) (by kernel_rfl) rfl rfl rfl rfl rfl rfl ?_ ?_ ?_
    · refine ⟨?_, ?_, ?_, ?_, ?_, ?_, ?_, ?_, ?_, ?_, ?_, ?_, trivial⟩
      · intro ac wc hs hd hz hf hw K hK
        clear hd hz hf hw
        simp only [Region.wanted, if_true, Oper.wp, execOp, resolve, List.map_toArray, List.map_cons, List.map_nil, Option.map_some, Option.map_none]
        go_simp
        refine (table_any _).mono ?_
        rintro e wd ⟨vt, rfl, ht9, hs9⟩
        exact hK _ _ ht9 hs9
      · intro ac wc hs hd hz hf hw K hK
        have e0 : ac.eval (.tmp 2) = (.slice Ar row.length cr) := hf 2 rfl
        clear hd hz hf hw
        simp only [Region.wanted, if_true, Oper.wp, execOp, resolve, List.map_toArray, List.map_cons, List.map_nil, Option.map_some, Option.map_none, e0]
        go_simp
        exact hK _ _ rfl (Same.refl _ _)
      · intro ac wc hs hd hz hf hw K hK
        have e0 : ac.eval (.tmp 8) = (.string (str s)) := hf 8 rfl
        clear hd hz hf hw
        simp only [Region.wanted, if_true, Oper.wp, execOp, resolve, List.map_toArray, List.map_cons, List.map_nil, Option.map_some, Option.map_none, e0]
        go_simp
        exact hK _ _ rfl (Same.refl _ _)
      · intro ac wc hs hd hz hf hw K hK
        have e0 : ac.eval (.tmp 3) = (.pointer (some ⟨w.heap.size, 0, none⟩)) := hf 3 rfl
        have m0 : wc.cell? ⟨w.heap.size, 0, none⟩ = some (.int .i64 e.kind) := hs.cell (p := ⟨w.heap.size, 0, none⟩) trivial k0
        have m1 : wc.cell? ⟨w.heap.size, 1, none⟩ = some (.string (str e.s)) := hs.cell (p := ⟨w.heap.size, 1, none⟩) trivial k1
        have m2 : wc.cell? ⟨w.heap.size, 2, none⟩ = some (.int .i64 e.v.kind) := hs.cell (p := ⟨w.heap.size, 2, none⟩) trivial k2
        have m3 : wc.cell? ⟨w.heap.size, 3, none⟩ = some (.int .i64 e.v.n) := hs.cell (p := ⟨w.heap.size, 3, none⟩) trivial k3
        have m4 : wc.cell? ⟨w.heap.size, 4, none⟩ = some (.string (str e.v.s)) := hs.cell (p := ⟨w.heap.size, 4, none⟩) trivial k4
        have m5 : wc.cell? ⟨w.heap.size, 5, none⟩ = some (.slice A e.args.length c) := hs.cell (p := ⟨w.heap.size, 5, none⟩) trivial k5
        clear hd hz hf hw
        simp only [Region.wanted, if_true, Oper.wp, execOp, resolve, List.map_toArray, List.map_cons, List.map_nil, Option.map_some, Option.map_none, e0]
        go_simp
        exact hK _ _ rfl (Same.refl _ _)
      · intro ac wc hs hd hz hf hw K hK
        have e0 : ac.eval (.tmp 9) = (.pointer (some ⟨p, 0, none⟩)) := hf 9 rfl
        have m0 : wc.cell? ⟨p, 0, none⟩ = some (.int .i64 X2.kind) := hs.cell (p := ⟨p, 0, none⟩) trivial n0
        have m1 : wc.cell? ⟨p, 1, none⟩ = some (.string (str X2.s)) := hs.cell (p := ⟨p, 1, none⟩) trivial n1
        have m2 : wc.cell? ⟨p, 2, none⟩ = some (.int .i64 X2.v.kind) := hs.cell (p := ⟨p, 2, none⟩) trivial n2
        have m3 : wc.cell? ⟨p, 3, none⟩ = some (.int .i64 X2.v.n) := hs.cell (p := ⟨p, 3, none⟩) trivial n3
        have m4 : wc.cell? ⟨p, 4, none⟩ = some (.string (str X2.v.s)) := hs.cell (p := ⟨p, 4, none⟩) trivial n4
        have m5 : wc.cell? ⟨p, 5, none⟩ = some (.slice none 0 0) := hs.cell (p := ⟨p, 5, none⟩) trivial n5
        clear hd hz hf hw
        simp only [Region.wanted, if_true, Oper.wp, execOp, resolve, List.map_toArray, List.map_cons, List.map_nil, Option.map_some, Option.map_none, e0]
        go_simp
        exact hK _ _ rfl (Same.refl _ _)
      · intro ac wc hs hd hz hf hw K hK
        have e0 : ac.eval (.tmp 57) = (exV (.slice A e.args.length c) e) := hw 3 rfl
        have e1 : ac.eval (.tmp 58) = (exV (.slice none 0 0) X2) := hw 4 rfl
        clear hd hz hf hw
        simp only [Region.wanted, if_true, Oper.wp, execOp, resolve, List.map_toArray, List.map_cons, List.map_nil, Option.map_some, Option.map_none, e0, e1]
        go_simp
        exact hK _ _ (ExL.fresh2 wc (Hv.out.keepAll (HS5.out.trans hs)) (hx2.out wc)) ((Same.refl _ _).alloc _)
      · intro ac wc hs hd hz hf hw K hK
        have e0 : ac.eval (.tmp 56) = (.string (str s)) := hw 2 rfl
        have p1 : ((.exl [e, X2]) : SP).p (ac.eval (.tmp 59)) wc := hw 5 rfl
        obtain ⟨u1, e1⟩ : ∃ u, ac.eval (.tmp 59) = u := ⟨_, rfl⟩
        rw [e1] at p1
        clear hd hz hf hw
        simp only [Region.wanted, if_true, Oper.wp, execOp, resolve, List.map_toArray, List.map_cons, List.map_nil, Option.map_some, Option.map_none, e0, e1]
        go_simp
        refine (op_v _ s _ _ p1).mono ?_
        rintro e wd ⟨vt, rfl, ht9, hs9⟩
        exact hK _ _ ht9 hs9
      · intro ac wc hs hd hz hf hw K hK
        have p0 : (.tab : SP).p (ac.eval (.tmp 54)) wc := hw 0 rfl
        obtain ⟨u0, e0⟩ : ∃ u, ac.eval (.tmp 54) = u := ⟨_, rfl⟩
        rw [e0] at p0
        have e1 : ac.eval (.tmp 55) = (.slice Ar row.length cr) := hw 1 rfl
        have p2 : ((.tree (.mk 3 s .zero [e, X2])) : SP).p (ac.eval (.tmp 60)) wc := hw 6 rfl
        obtain ⟨u2, e2⟩ : ∃ u, ac.eval (.tmp 60) = u := ⟨_, rfl⟩
        rw [e2] at p2
        clear hd hz hf hw
        simp only [Region.wanted, if_true, Oper.wp, execOp, resolve, List.map_toArray, List.map_cons, List.map_nil, Option.map_some, Option.map_none, e0, e1, e2]
        go_simp
        refine (EvV.out _ _ _ _ p0 p2 (RowR.keepAll Hrow.out (HS5.out.trans hs))).mono ?_
        rintro e wd ⟨rfl, hs2⟩
        exact hK _ _ rfl hs2
      · intro ac wc hs hd hz hf hw K hK
        have e0 : ac.eval (.tmp 61) = (.tuple #[valV V.1, .int .i64 V.2]) := hw 7 rfl
        clear hd hz hf hw
        simp only [Region.wanted, if_true, Oper.wp, execOp, resolve, List.map_toArray, List.map_cons, List.map_nil, Option.map_some, Option.map_none, e0]
        go_simp
        exact hK _ _ rfl (Same.refl _ _)
      · intro ac wc hs hd hz hf hw K hK
        have e0 : ac.eval (.tmp 53) = (.tuple #[valV V.1, .int .i64 V.2]) := hw 8 rfl
        clear hd hz hf hw
        simp only [Region.wanted, if_true, Oper.wp, execOp, resolve, List.map_toArray, List.map_cons, List.map_nil, Option.map_some, Option.map_none, e0]
        go_simp
        exact hK _ _ rfl (Same.refl _ _)
      · intro ac wc hs hd hz hf hw K hK
        have e0 : ac.eval (.tmp 53) = (.tuple #[valV V.1, .int .i64 V.2]) := hw 8 rfl
        clear hd hz hf hw
        simp only [Region.wanted, if_true, Oper.wp, execOp, resolve, List.map_toArray, List.map_cons, List.map_nil, Option.map_some, Option.map_none, e0]
        go_simp
        exact hK _ _ rfl (Same.refl _ _)
      · intro ac wc hs hd hz hf hw K hK
        clear hd hz hf hw
        simp only [Region.wanted, if_true, Oper.wp, execOp, resolve, List.map_toArray, List.map_cons, List.map_nil, Option.map_some, Option.map_none]
        go_simp
        exact hK _ _ ⟨_, rfl, hs.size, Row.new wc _ (valCs .zero)⟩ ((Same.refl _ _).alloc _)
    · intro vs wR hvl hvp hsR
      rcases vs with _ | ⟨z0, _ | ⟨z1, _ | ⟨z2, _ | ⟨z3, _ | ⟨z4, _ | ⟨z5, _ | ⟨z6, _ | ⟨z7, _ | ⟨z8, _ | ⟨z9, _ | ⟨z10, _ | ⟨z11, _ | ⟨zz, zr⟩⟩⟩⟩⟩⟩⟩⟩⟩⟩⟩⟩⟩
      rotate_right 1
      · simp at hvl
      · simp at hvl
      · simp at hvl
      · simp at hvl
      · simp at hvl
      · simp at hvl
      · simp at hvl
      · simp at hvl
      · simp at hvl
      · simp at hvl
      · simp at hvl
      · simp at hvl
      · simp at hvl
      · have htb : (.tab : SP).p z0 wR := hvp 0 (by omega)
        obtain rfl : z1 = (.slice Ar row.length cr) := hvp 1 (by omega)
        obtain rfl : z2 = (.string (str s)) := hvp 2 (by omega)
        obtain rfl : z3 = (exV (.slice A e.args.length c) e) := hvp 3 (by omega)
        obtain rfl : z4 = (exV (.slice none 0 0) X2) := hvp 4 (by omega)
        have hsl59 : ((.exl [e, X2]) : SP).p z5 wR := hvp 5 (by omega)
        have htr60 : ((.tree (.mk 3 s .zero [e, X2])) : SP).p z6 wR := hvp 6 (by omega)
        obtain rfl : z7 = (.tuple #[valV V.1, .int .i64 V.2]) := hvp 7 (by omega)
        obtain rfl : z8 = (.tuple #[valV V.1, .int .i64 V.2]) := hvp 8 (by omega)
        obtain rfl : z9 = (valV V.1) := hvp 9 (by omega)
        obtain rfl : z10 = (.int .i64 V.2) := hvp 10 (by omega)
        have hfr : ((.fresh W5.heap.size 23 (valCs .zero)) : SP).p z11 wR := hvp 11 (by omega)
        clear hvl hvp
        simp only [putAll, Act.put, List.setIfInBounds_toArray, List.set_cons_succ, List.set_cons_zero, List.take_succ_cons, List.take_zero, List.drop_succ_cons, List.drop_zero, List.eraseIdx_cons_succ, List.eraseIdx_cons_zero]
        obtain ⟨g, rfl, hg, hrg⟩ := hfr
        have y0 : wR.cell? ⟨g, 0, none⟩ = some (.int .i64 0) := hrg.cell 0
        have y1 : wR.cell? ⟨g, 1, none⟩ = some (.int .i64 0) := hrg.cell 1
        have y2 : wR.cell? ⟨g, 2, none⟩ = some (.string (str [])) := hrg.cell 2
        have x0 : wR.frozen? ⟨g, 0, none⟩ = false := hrg.frozen 0
        have x1 : wR.frozen? ⟨g, 1, none⟩ = false := hrg.frozen 1
        have x2 : wR.frozen? ⟨g, 2, none⟩ = false := hrg.frozen 2
        have Hrg := Lib.hid hrg
        have HsR := Lib.hid hsR
        have zG := hrg.lt
        clear hsR hrg 
        go_wp2
        go_meet
        exact ⟨_, g, rfl, rfl, rfl, hg, Hrg.out.set3 _, HsR.out.set3 (fun h => by omega) _ _ _⟩
    · intro vs wR hvl hvp hsR
      rcases vs with _ | ⟨z0, _ | ⟨z1, _ | ⟨z2, _ | ⟨z3, _ | ⟨z4, _ | ⟨z5, _ | ⟨z6, _ | ⟨z7, _ | ⟨z8, _ | ⟨z9, _ | ⟨z11, _ | ⟨zz, zr⟩⟩⟩⟩⟩⟩⟩⟩⟩⟩⟩⟩
      rotate_right 1
      · simp at hvl
      · simp at hvl
      · simp at hvl
      · simp at hvl
      · simp at hvl
      · simp at hvl
      · simp at hvl
      · simp at hvl
      · simp at hvl
      · simp at hvl
      · simp at hvl
      · simp at hvl
      · have htb : (.tab : SP).p z0 wR := hvp 0 (by omega)
        obtain rfl : z1 = (.slice Ar row.length cr) := hvp 1 (by omega)
        obtain rfl : z2 = (.string (str s)) := hvp 2 (by omega)
        obtain rfl : z3 = (exV (.slice A e.args.length c) e) := hvp 3 (by omega)
        obtain rfl : z4 = (exV (.slice none 0 0) X2) := hvp 4 (by omega)
        have hsl59 : ((.exl [e, X2]) : SP).p z5 wR := hvp 5 (by omega)
        have htr60 : ((.tree (.mk 3 s .zero [e, X2])) : SP).p z6 wR := hvp 6 (by omega)
        obtain rfl : z7 = (.tuple #[valV V.1, .int .i64 V.2]) := hvp 7 (by omega)
        obtain rfl : z8 = (.tuple #[valV V.1, .int .i64 V.2]) := hvp 8 (by omega)
        obtain rfl : z9 = (valV V.1) := hvp 9 (by omega)
        have hfr : ((.fresh W5.heap.size 23 (valCs .zero)) : SP).p z11 wR := hvp 10 (by omega)
        clear hvl hvp
        simp only [putAll, Act.put, List.setIfInBounds_toArray, List.set_cons_succ, List.set_cons_zero, List.take_succ_cons, List.take_zero, List.drop_succ_cons, List.drop_zero, List.eraseIdx_cons_succ, List.eraseIdx_cons_zero]
        obtain ⟨g, rfl, hg, hrg⟩ := hfr
        have y0 : wR.cell? ⟨g, 0, none⟩ = some (.int .i64 0) := hrg.cell 0
        have y1 : wR.cell? ⟨g, 1, none⟩ = some (.int .i64 0) := hrg.cell 1
        have y2 : wR.cell? ⟨g, 2, none⟩ = some (.string (str [])) := hrg.cell 2
        have x0 : wR.frozen? ⟨g, 0, none⟩ = false := hrg.frozen 0
        have x1 : wR.frozen? ⟨g, 1, none⟩ = false := hrg.frozen 1
        have x2 : wR.frozen? ⟨g, 2, none⟩ = false := hrg.frozen 2
        have Hrg := Lib.hid hrg
        have HsR := Lib.hid hsR
        have zG := hrg.lt
        clear hsR hrg 
        go_wp2
        go_meet
        exact ⟨_, g, rfl, rfl, rfl, hg, Hrg.out.set3 _, HsR.out.set3 (fun h => by omega) _ _ _⟩
  case rest =>
    obtain ⟨W6, g6, rfl, rfl, rfl, hg6, hr6, hS6⟩ := hcut
    have hre := Hre.out.keep hS6 trivial
    have hrn := Hrn.out.keep hS6 trivial
    have HS6 := Lib.hid (HS5.out.trans hS6)
    clear hS6 Hre Hrn k0 k1 k2 k3 k4 k5 n0 n1 n2 n3 n4 n5 zk zn EvV
    have Hr6 := Lib.hid hr6
    clear hr6
    have k0 : W6.cell? ⟨w.heap.size, 0, none⟩ = some (.int .i64 e.kind) := hre.cell 0
    have k1 : W6.cell? ⟨w.heap.size, 1, none⟩ = some (.string (str e.s)) := hre.cell 1
    have k2 : W6.cell? ⟨w.heap.size, 2, none⟩ = some (.int .i64 e.v.kind) := hre.cell 2
    have k3 : W6.cell? ⟨w.heap.size, 3, none⟩ = some (.int .i64 e.v.n) := hre.cell 3
    have k4 : W6.cell? ⟨w.heap.size, 4, none⟩ = some (.string (str e.v.s)) := hre.cell 4
    have k5 : W6.cell? ⟨w.heap.size, 5, none⟩ = some (.slice A e.args.length c) := hre.cell 5
    have n0 : W6.cell? ⟨p, 0, none⟩ = some (.int .i64 X2.kind) := hrn.cell 0
    have n1 : W6.cell? ⟨p, 1, none⟩ = some (.string (str X2.s)) := hrn.cell 1
    have n2 : W6.cell? ⟨p, 2, none⟩ = some (.int .i64 X2.v.kind) := hrn.cell 2
    have n3 : W6.cell? ⟨p, 3, none⟩ = some (.int .i64 X2.v.n) := hrn.cell 3
    have n4 : W6.cell? ⟨p, 4, none⟩ = some (.string (str X2.v.s)) := hrn.cell 4
    have n5 : W6.cell? ⟨p, 5, none⟩ = some (.slice none 0 0) := hrn.cell 5
    have zk := hre.lt
    have zn := hrn.lt
    have Hre := Lib.hid hre
    have Hrn := Lib.hid hrn
    clear hre hrn
    go_wp2
    go_upto_region 9 with (fail)
    go_cut [12, 13] from 64 to 74 (fun vA vB wx => ∃ (W7 : World) (g : Nat), W7 = wx ∧ vA = .pointer (some ⟨g, 0, none⟩) ∧ vB = .int .i64 U.2 ∧ W6.heap.size ≤ g ∧ Row W7 g 23 (valCs U.1) ∧ Same (fun _ => True) W6 W7)
    case first =>
      refine wp_region_tail_d (L := [.of .tab, .eq (.slice Ar row.length cr), .eq (.string (str s)), .eq (exV (.slice none 0 0) X2), .eq (exV (.slice A e.args.length c) e), .of (.exl [X2, e]), .of (.tree (.mk 3 s .zero [X2, e])), .eq (.tuple #[valV U.1, .int .i64 U.2]), .eq (.tuple #[valV U.1, .int .i64 U.2]), .eq (valV U.1), .eq (.int .i64 U.2), .of (.fresh W6.heap.size 23 (valCs .zero))]) 12 10 (by omega) (by kernel_rfl) (by kernel_rfl) rfl rfl rfl rfl rfl rfl ?_ ?_ ?_
      · refine ⟨?_, ?_, ?_, ?_, ?_, ?_, ?_, ?_, ?_, ?_, ?_, ?_, trivial⟩
        · intro ac wc hs hd hz hf hw K hK
          clear hd hz hf hw
          simp only [Region.wanted, if_true, Oper.wp, execOp, resolve, List.map_toArray, List.map_cons, List.map_nil, Option.map_some, Option.map_none]
          go_simp
          refine (table_any _).mono ?_
          rintro e wd ⟨vt, rfl, ht9, hs9⟩
          exact hK _ _ ht9 hs9
        · intro ac wc hs hd hz hf hw K hK
          have e0 : ac.eval (.tmp 2) = (.slice Ar row.length cr) := hf 2 rfl
          clear hd hz hf hw
          simp only [Region.wanted, if_true, Oper.wp, execOp, resolve, List.map_toArray, List.map_cons, List.map_nil, Option.map_some, Option.map_none, e0]
          go_simp
          exact hK _ _ rfl (Same.refl _ _)
        · intro ac wc hs hd hz hf hw K hK
          have e0 : ac.eval (.tmp 8) = (.string (str s)) := hf 8 rfl
          clear hd hz hf hw
          simp only [Region.wanted, if_true, Oper.wp, execOp, resolve, List.map_toArray, List.map_cons, List.map_nil, Option.map_some, Option.map_none, e0]
          go_simp
          exact hK _ _ rfl (Same.refl _ _)
        · intro ac wc hs hd hz hf hw K hK
          have e0 : ac.eval (.tmp 9) = (.pointer (some ⟨p, 0, none⟩)) := hf 9 rfl
          have m0 : wc.cell? ⟨p, 0, none⟩ = some (.int .i64 X2.kind) := hs.cell (p := ⟨p, 0, none⟩) trivial n0
          have m1 : wc.cell? ⟨p, 1, none⟩ = some (.string (str X2.s)) := hs.cell (p := ⟨p, 1, none⟩) trivial n1
          have m2 : wc.cell? ⟨p, 2, none⟩ = some (.int .i64 X2.v.kind) := hs.cell (p := ⟨p, 2, none⟩) trivial n2
          have m3 : wc.cell? ⟨p, 3, none⟩ = some (.int .i64 X2.v.n) := hs.cell (p := ⟨p, 3, none⟩) trivial n3
          have m4 : wc.cell? ⟨p, 4, none⟩ = some (.string (str X2.v.s)) := hs.cell (p := ⟨p, 4, none⟩) trivial n4
          have m5 : wc.cell? ⟨p, 5, none⟩ = some (.slice none 0 0) := hs.cell (p := ⟨p, 5, none⟩) trivial n5
          clear hd hz hf hw
          simp only [Region.wanted, if_true, Oper.wp, execOp, resolve, List.map_toArray, List.map_cons, List.map_nil, Option.map_some, Option.map_none, e0]
          go_simp
          exact hK _ _ rfl (Same.refl _ _)
        · intro ac wc hs hd hz hf hw K hK
          have e0 : ac.eval (.tmp 3) = (.pointer (some ⟨w.heap.size, 0, none⟩)) := hf 3 rfl
          have m0 : wc.cell? ⟨w.heap.size, 0, none⟩ = some (.int .i64 e.kind) := hs.cell (p := ⟨w.heap.size, 0, none⟩) trivial k0
          have m1 : wc.cell? ⟨w.heap.size, 1, none⟩ = some (.string (str e.s)) := hs.cell (p := ⟨w.heap.size, 1, none⟩) trivial k1
          have m2 : wc.cell? ⟨w.heap.size, 2, none⟩ = some (.int .i64 e.v.kind) := hs.cell (p := ⟨w.heap.size, 2, none⟩) trivial k2
          have m3 : wc.cell? ⟨w.heap.size, 3, none⟩ = some (.int .i64 e.v.n) := hs.cell (p := ⟨w.heap.size, 3, none⟩) trivial k3
          have m4 : wc.cell? ⟨w.heap.size, 4, none⟩ = some (.string (str e.v.s)) := hs.cell (p := ⟨w.heap.size, 4, none⟩) trivial k4
          have m5 : wc.cell? ⟨w.heap.size, 5, none⟩ = some (.slice A e.args.length c) := hs.cell (p := ⟨w.heap.size, 5, none⟩) trivial k5
          clear hd hz hf hw
          simp only [Region.wanted, if_true, Oper.wp, execOp, resolve, List.map_toArray, List.map_cons, List.map_nil, Option.map_some, Option.map_none, e0]
          go_simp
          exact hK _ _ rfl (Same.refl _ _)
        · intro ac wc hs hd hz hf hw K hK
          have e0 : ac.eval (.tmp 68) = (exV (.slice none 0 0) X2) := hw 3 rfl
          have e1 : ac.eval (.tmp 69) = (exV (.slice A e.args.length c) e) := hw 4 rfl
          clear hd hz hf hw
          simp only [Region.wanted, if_true, Oper.wp, execOp, resolve, List.map_toArray, List.map_cons, List.map_nil, Option.map_some, Option.map_none, e0, e1]
          go_simp
          exact hK _ _ (ExL.fresh2 wc (hx2.out wc) (Hv.out.keepAll (HS6.out.trans hs))) ((Same.refl _ _).alloc _)
        · intro ac wc hs hd hz hf hw K hK
          have e0 : ac.eval (.tmp 67) = (.string (str s)) := hw 2 rfl
          have p1 : ((.exl [X2, e]) : SP).p (ac.eval (.tmp 70)) wc := hw 5 rfl
          obtain ⟨u1, e1⟩ : ∃ u, ac.eval (.tmp 70) = u := ⟨_, rfl⟩
          rw [e1] at p1
          clear hd hz hf hw
          simp only [Region.wanted, if_true, Oper.wp, execOp, resolve, List.map_toArray, List.map_cons, List.map_nil, Option.map_some, Option.map_none, e0, e1]
          go_simp
          refine (op_v _ s _ _ p1).mono ?_
          rintro e wd ⟨vt, rfl, ht9, hs9⟩
          exact hK _ _ ht9 hs9
        · intro ac wc hs hd hz hf hw K hK
          have p0 : (.tab : SP).p (ac.eval (.tmp 65)) wc := hw 0 rfl
          obtain ⟨u0, e0⟩ : ∃ u, ac.eval (.tmp 65) = u := ⟨_, rfl⟩
          rw [e0] at p0
          have e1 : ac.eval (.tmp 66) = (.slice Ar row.length cr) := hw 1 rfl
          have p2 : ((.tree (.mk 3 s .zero [X2, e])) : SP).p (ac.eval (.tmp 71)) wc := hw 6 rfl
          obtain ⟨u2, e2⟩ : ∃ u, ac.eval (.tmp 71) = u := ⟨_, rfl⟩
          rw [e2] at p2
          clear hd hz hf hw
          simp only [Region.wanted, if_true, Oper.wp, execOp, resolve, List.map_toArray, List.map_cons, List.map_nil, Option.map_some, Option.map_none, e0, e1, e2]
          go_simp
          refine (EvU.out _ _ _ _ p0 p2 (RowR.keepAll Hrow.out (HS6.out.trans hs))).mono ?_
          rintro e wd ⟨rfl, hs2⟩
          exact hK _ _ rfl hs2
        · intro ac wc hs hd hz hf hw K hK
          have e0 : ac.eval (.tmp 72) = (.tuple #[valV U.1, .int .i64 U.2]) := hw 7 rfl
          clear hd hz hf hw
          simp only [Region.wanted, if_true, Oper.wp, execOp, resolve, List.map_toArray, List.map_cons, List.map_nil, Option.map_some, Option.map_none, e0]
          go_simp
          exact hK _ _ rfl (Same.refl _ _)
        · intro ac wc hs hd hz hf hw K hK
          have e0 : ac.eval (.tmp 64) = (.tuple #[valV U.1, .int .i64 U.2]) := hw 8 rfl
          clear hd hz hf hw
          simp only [Region.wanted, if_true, Oper.wp, execOp, resolve, List.map_toArray, List.map_cons, List.map_nil, Option.map_some, Option.map_none, e0]
          go_simp
          exact hK _ _ rfl (Same.refl _ _)
        · intro ac wc hs hd hz hf hw K hK
          have e0 : ac.eval (.tmp 64) = (.tuple #[valV U.1, .int .i64 U.2]) := hw 8 rfl
          clear hd hz hf hw
          simp only [Region.wanted, if_true, Oper.wp, execOp, resolve, List.map_toArray, List.map_cons, List.map_nil, Option.map_some, Option.map_none, e0]
          go_simp
          exact hK _ _ rfl (Same.refl _ _)
        · intro ac wc hs hd hz hf hw K hK
          clear hd hz hf hw
          simp only [Region.wanted, if_true, Oper.wp, execOp, resolve, List.map_toArray, List.map_cons, List.map_nil, Option.map_some, Option.map_none]
          go_simp
          exact hK _ _ ⟨_, rfl, hs.size, Row.new wc _ (valCs .zero)⟩ ((Same.refl _ _).alloc _)
      · intro vs wR hvl hvp hsR
        rcases vs with _ | ⟨z0, _ | ⟨z1, _ | ⟨z2, _ | ⟨z3, _ | ⟨z4, _ | ⟨z5, _ | ⟨z6, _ | ⟨z7, _ | ⟨z8, _ | ⟨z9, _ | ⟨z10, _ | ⟨z11, _ | ⟨zz, zr⟩⟩⟩⟩⟩⟩⟩⟩⟩⟩⟩⟩⟩
        rotate_right 1
        · simp at hvl
        · simp at hvl
        · simp at hvl
        · simp at hvl
        · simp at hvl
        · simp at hvl
        · simp at hvl
        · simp at hvl
        · simp at hvl
        · simp at hvl
        · simp at hvl
        · simp at hvl
        · simp at hvl
        · have htb : (.tab : SP).p z0 wR := hvp 0 (by omega)
          obtain rfl : z1 = (.slice Ar row.length cr) := hvp 1 (by omega)
          obtain rfl : z2 = (.string (str s)) := hvp 2 (by omega)
          obtain rfl : z3 = (exV (.slice none 0 0) X2) := hvp 3 (by omega)
          obtain rfl : z4 = (exV (.slice A e.args.length c) e) := hvp 4 (by omega)
          have hsl70 : ((.exl [X2, e]) : SP).p z5 wR := hvp 5 (by omega)
          have htr71 : ((.tree (.mk 3 s .zero [X2, e])) : SP).p z6 wR := hvp 6 (by omega)
          obtain rfl : z7 = (.tuple #[valV U.1, .int .i64 U.2]) := hvp 7 (by omega)
          obtain rfl : z8 = (.tuple #[valV U.1, .int .i64 U.2]) := hvp 8 (by omega)
          obtain rfl : z9 = (valV U.1) := hvp 9 (by omega)
          obtain rfl : z10 = (.int .i64 U.2) := hvp 10 (by omega)
          have hfr : ((.fresh W6.heap.size 23 (valCs .zero)) : SP).p z11 wR := hvp 11 (by omega)
          clear hvl hvp
          simp only [putAll, Act.put, List.setIfInBounds_toArray, List.set_cons_succ, List.set_cons_zero, List.take_succ_cons, List.take_zero, List.drop_succ_cons, List.drop_zero, List.eraseIdx_cons_succ, List.eraseIdx_cons_zero]
          obtain ⟨g, rfl, hg, hrg⟩ := hfr
          have y0 : wR.cell? ⟨g, 0, none⟩ = some (.int .i64 0) := hrg.cell 0
          have y1 : wR.cell? ⟨g, 1, none⟩ = some (.int .i64 0) := hrg.cell 1
          have y2 : wR.cell? ⟨g, 2, none⟩ = some (.string (str [])) := hrg.cell 2
          have x0 : wR.frozen? ⟨g, 0, none⟩ = false := hrg.frozen 0
          have x1 : wR.frozen? ⟨g, 1, none⟩ = false := hrg.frozen 1
          have x2 : wR.frozen? ⟨g, 2, none⟩ = false := hrg.frozen 2
          have Hrg := Lib.hid hrg
          have HsR := Lib.hid hsR
          have zG := hrg.lt
          clear hsR hrg 
          go_wp2
          go_meet
          exact ⟨_, g, rfl, rfl, rfl, hg, Hrg.out.set3 _, HsR.out.set3 (fun h => by omega) _ _ _⟩
      · intro vs wR hvl hvp hsR
        rcases vs with _ | ⟨z0, _ | ⟨z1, _ | ⟨z2, _ | ⟨z3, _ | ⟨z4, _ | ⟨z5, _ | ⟨z6, _ | ⟨z7, _ | ⟨z8, _ | ⟨z9, _ | ⟨z11, _ | ⟨zz, zr⟩⟩⟩⟩⟩⟩⟩⟩⟩⟩⟩⟩
        rotate_right 1
        · simp at hvl
        · simp at hvl
        · simp at hvl
        · simp at hvl
        · simp at hvl
        · simp at hvl
        · simp at hvl
        · simp at hvl
        · simp at hvl
        · simp at hvl
        · simp at hvl
        · simp at hvl
        · have htb : (.tab : SP).p z0 wR := hvp 0 (by omega)
          obtain rfl : z1 = (.slice Ar row.length cr) := hvp 1 (by omega)
          obtain rfl : z2 = (.string (str s)) := hvp 2 (by omega)
          obtain rfl : z3 = (exV (.slice none 0 0) X2) := hvp 3 (by omega)
          obtain rfl : z4 = (exV (.slice A e.args.length c) e) := hvp 4 (by omega)
          have hsl70 : ((.exl [X2, e]) : SP).p z5 wR := hvp 5 (by omega)
          have htr71 : ((.tree (.mk 3 s .zero [X2, e])) : SP).p z6 wR := hvp 6 (by omega)
          obtain rfl : z7 = (.tuple #[valV U.1, .int .i64 U.2]) := hvp 7 (by omega)
          obtain rfl : z8 = (.tuple #[valV U.1, .int .i64 U.2]) := hvp 8 (by omega)
          obtain rfl : z9 = (valV U.1) := hvp 9 (by omega)
          have hfr : ((.fresh W6.heap.size 23 (valCs .zero)) : SP).p z11 wR := hvp 10 (by omega)
          clear hvl hvp
          simp only [putAll, Act.put, List.setIfInBounds_toArray, List.set_cons_succ, List.set_cons_zero, List.take_succ_cons, List.take_zero, List.drop_succ_cons, List.drop_zero, List.eraseIdx_cons_succ, List.eraseIdx_cons_zero]
          obtain ⟨g, rfl, hg, hrg⟩ := hfr
          have y0 : wR.cell? ⟨g, 0, none⟩ = some (.int .i64 0) := hrg.cell 0
          have y1 : wR.cell? ⟨g, 1, none⟩ = some (.int .i64 0) := hrg.cell 1
          have y2 : wR.cell? ⟨g, 2, none⟩ = some (.string (str [])) := hrg.cell 2
          have x0 : wR.frozen? ⟨g, 0, none⟩ = false := hrg.frozen 0
          have x1 : wR.frozen? ⟨g, 1, none⟩ = false := hrg.frozen 1
          have x2 : wR.frozen? ⟨g, 2, none⟩ = false := hrg.frozen 2
          have Hrg := Lib.hid hrg
          have HsR := Lib.hid hsR
          have zG := hrg.lt
          clear hsR hrg 
          go_wp2
          go_meet
          exact ⟨_, g, rfl, rfl, rfl, hg, Hrg.out.set3 _, HsR.out.set3 (fun h => by omega) _ _ _⟩
    case rest =>
      obtain ⟨W7, g7, rfl, rfl, rfl, hg7, hr7, hS7⟩ := hcut
      have hre := Hre.out.keep hS7 trivial
      have hrn := Hrn.out.keep hS7 trivial
      have hr6 := Hr6.out.keep hS7 trivial
      have HS7 := Lib.hid (HS6.out.trans hS7)
      clear hS7 Hre Hrn k0 k1 k2 k3 k4 k5 n0 n1 n2 n3 n4 n5 zk zn Hr6 EvU
      have Hr6 := Lib.hid hr6
      have Hr7 := Lib.hid hr7
      clear hr6 hr7
      have k0 : W7.cell? ⟨w.heap.size, 0, none⟩ = some (.int .i64 e.kind) := hre.cell 0
      have k1 : W7.cell? ⟨w.heap.size, 1, none⟩ = some (.string (str e.s)) := hre.cell 1
      have k2 : W7.cell? ⟨w.heap.size, 2, none⟩ = some (.int .i64 e.v.kind) := hre.cell 2
      have k3 : W7.cell? ⟨w.heap.size, 3, none⟩ = some (.int .i64 e.v.n) := hre.cell 3
      have k4 : W7.cell? ⟨w.heap.size, 4, none⟩ = some (.string (str e.v.s)) := hre.cell 4
      have k5 : W7.cell? ⟨w.heap.size, 5, none⟩ = some (.slice A e.args.length c) := hre.cell 5
      have n0 : W7.cell? ⟨p, 0, none⟩ = some (.int .i64 X2.kind) := hrn.cell 0
      have n1 : W7.cell? ⟨p, 1, none⟩ = some (.string (str X2.s)) := hrn.cell 1
      have n2 : W7.cell? ⟨p, 2, none⟩ = some (.int .i64 X2.v.kind) := hrn.cell 2
      have n3 : W7.cell? ⟨p, 3, none⟩ = some (.int .i64 X2.v.n) := hrn.cell 3
      have n4 : W7.cell? ⟨p, 4, none⟩ = some (.string (str X2.v.s)) := hrn.cell 4
      have n5 : W7.cell? ⟨p, 5, none⟩ = some (.slice none 0 0) := hrn.cell 5
      have zk := hre.lt
      have zn := hrn.lt
      have Hre := Lib.hid hre
      have Hrn := Lib.hid hrn
      clear hre hrn
      go_wp2
      go_upto_region 10 with (fail)
      go_cut [14, 15] from 75 to 87 (fun vA vB wx => ∃ (W8 : World) (g : Nat), W8 = wx ∧ vA = .pointer (some ⟨g, 0, none⟩) ∧ vB = .int .i64 N.2 ∧ W7.heap.size ≤ g ∧ Row W8 g 23 (valCs N.1) ∧ Same (fun _ => True) W7 W8)
      case first =>
        refine wp_region_tail_d (L := [.of .tab, .eq (.slice Ar row.length cr), .eq (.string (str s)), .eq (exV (.slice A e.args.length c) e), .eq (exV (.slice none 0 0) X2), .of (.exl [e, X2]), .of (.tree (.mk 3 s .zero [e, X2])), .of (.exl [(.mk 3 s .zero [e, X2])]), .of (.tree (.mk 3 [73, 83, 78, 85, 76, 76] .zero [(.mk 3 s .zero [e, X2])])), .eq (.tuple #[valV N.1, .int .i64 N.2]), .eq (.tuple #[valV N.1, .int .i64 N.2]), .eq (valV N.1), .eq (.int .i64 N.2), .of (.fresh W7.heap.size 23 (valCs .zero))]) 14 12 (by omega) (by kernel_rfl) (by kernel_rfl) rfl rfl rfl rfl rfl rfl ?_ ?_ ?_
        · refine ⟨?_, ?_, ?_, ?_, ?_, ?_, ?_, ?_, ?_, ?_, ?_, ?_, ?_, ?_, trivial⟩
          · intro ac wc hs hd hz hf hw K hK
            clear hd hz hf hw
            simp only [Region.wanted, if_true, Oper.wp, execOp, resolve, List.map_toArray, List.map_cons, List.map_nil, Option.map_some, Option.map_none]
            go_simp
            refine (table_any _).mono ?_
            rintro e wd ⟨vt, rfl, ht9, hs9⟩
            exact hK _ _ ht9 hs9
          · intro ac wc hs hd hz hf hw K hK
            have e0 : ac.eval (.tmp 2) = (.slice Ar row.length cr) := hf 2 rfl
            clear hd hz hf hw
            simp only [Region.wanted, if_true, Oper.wp, execOp, resolve, List.map_toArray, List.map_cons, List.map_nil, Option.map_some, Option.map_none, e0]
            go_simp
            exact hK _ _ rfl (Same.refl _ _)
          · intro ac wc hs hd hz hf hw K hK
            have e0 : ac.eval (.tmp 8) = (.string (str s)) := hf 8 rfl
            clear hd hz hf hw
            simp only [Region.wanted, if_true, Oper.wp, execOp, resolve, List.map_toArray, List.map_cons, List.map_nil, Option.map_some, Option.map_none, e0]
            go_simp
            exact hK _ _ rfl (Same.refl _ _)
          · intro ac wc hs hd hz hf hw K hK
            have e0 : ac.eval (.tmp 3) = (.pointer (some ⟨w.heap.size, 0, none⟩)) := hf 3 rfl
            have m0 : wc.cell? ⟨w.heap.size, 0, none⟩ = some (.int .i64 e.kind) := hs.cell (p := ⟨w.heap.size, 0, none⟩) trivial k0
            have m1 : wc.cell? ⟨w.heap.size, 1, none⟩ = some (.string (str e.s)) := hs.cell (p := ⟨w.heap.size, 1, none⟩) trivial k1
            have m2 : wc.cell? ⟨w.heap.size, 2, none⟩ = some (.int .i64 e.v.kind) := hs.cell (p := ⟨w.heap.size, 2, none⟩) trivial k2
            have m3 : wc.cell? ⟨w.heap.size, 3, none⟩ = some (.int .i64 e.v.n) := hs.cell (p := ⟨w.heap.size, 3, none⟩) trivial k3
            have m4 : wc.cell? ⟨w.heap.size, 4, none⟩ = some (.string (str e.v.s)) := hs.cell (p := ⟨w.heap.size, 4, none⟩) trivial k4
            have m5 : wc.cell? ⟨w.heap.size, 5, none⟩ = some (.slice A e.args.length c) := hs.cell (p := ⟨w.heap.size, 5, none⟩) trivial k5
            clear hd hz hf hw
            simp only [Region.wanted, if_true, Oper.wp, execOp, resolve, List.map_toArray, List.map_cons, List.map_nil, Option.map_some, Option.map_none, e0]
            go_simp
            exact hK _ _ rfl (Same.refl _ _)
          · intro ac wc hs hd hz hf hw K hK
            have e0 : ac.eval (.tmp 9) = (.pointer (some ⟨p, 0, none⟩)) := hf 9 rfl
            have m0 : wc.cell? ⟨p, 0, none⟩ = some (.int .i64 X2.kind) := hs.cell (p := ⟨p, 0, none⟩) trivial n0
            have m1 : wc.cell? ⟨p, 1, none⟩ = some (.string (str X2.s)) := hs.cell (p := ⟨p, 1, none⟩) trivial n1
            have m2 : wc.cell? ⟨p, 2, none⟩ = some (.int .i64 X2.v.kind) := hs.cell (p := ⟨p, 2, none⟩) trivial n2
            have m3 : wc.cell? ⟨p, 3, none⟩ = some (.int .i64 X2.v.n) := hs.cell (p := ⟨p, 3, none⟩) trivial n3
            have m4 : wc.cell? ⟨p, 4, none⟩ = some (.string (str X2.v.s)) := hs.cell (p := ⟨p, 4, none⟩) trivial n4
            have m5 : wc.cell? ⟨p, 5, none⟩ = some (.slice none 0 0) := hs.cell (p := ⟨p, 5, none⟩) trivial n5
            clear hd hz hf hw
            simp only [Region.wanted, if_true, Oper.wp, execOp, resolve, List.map_toArray, List.map_cons, List.map_nil, Option.map_some, Option.map_none, e0]
            go_simp
            exact hK _ _ rfl (Same.refl _ _)
          · intro ac wc hs hd hz hf hw K hK
            have e0 : ac.eval (.tmp 79) = (exV (.slice A e.args.length c) e) := hw 3 rfl
            have e1 : ac.eval (.tmp 80) = (exV (.slice none 0 0) X2) := hw 4 rfl
            clear hd hz hf hw
            simp only [Region.wanted, if_true, Oper.wp, execOp, resolve, List.map_toArray, List.map_cons, List.map_nil, Option.map_some, Option.map_none, e0, e1]
            go_simp
            exact hK _ _ (ExL.fresh2 wc (Hv.out.keepAll (HS7.out.trans hs)) (hx2.out wc)) ((Same.refl _ _).alloc _)
          · intro ac wc hs hd hz hf hw K hK
            have e0 : ac.eval (.tmp 78) = (.string (str s)) := hw 2 rfl
            have p1 : ((.exl [e, X2]) : SP).p (ac.eval (.tmp 81)) wc := hw 5 rfl
            obtain ⟨u1, e1⟩ : ∃ u, ac.eval (.tmp 81) = u := ⟨_, rfl⟩
            rw [e1] at p1
            clear hd hz hf hw
            simp only [Region.wanted, if_true, Oper.wp, execOp, resolve, List.map_toArray, List.map_cons, List.map_nil, Option.map_some, Option.map_none, e0, e1]
            go_simp
            refine (op_v _ s _ _ p1).mono ?_
            rintro e wd ⟨vt, rfl, ht9, hs9⟩
            exact hK _ _ ht9 hs9
          · intro ac wc hs hd hz hf hw K hK
            have p0 : ((.tree (.mk 3 s .zero [e, X2])) : SP).p (ac.eval (.tmp 82)) wc := hw 6 rfl
            obtain ⟨u0, e0⟩ : ∃ u, ac.eval (.tmp 82) = u := ⟨_, rfl⟩
            rw [e0] at p0
            clear hd hz hf hw
            simp only [Region.wanted, if_true, Oper.wp, execOp, resolve, List.map_toArray, List.map_cons, List.map_nil, Option.map_some, Option.map_none, e0]
            go_simp
            obtain ⟨w0, rfl, h0⟩ := p0
            go_simp
            exact hK _ _ (ExL.fresh1 wc h0) ((Same.refl _ _).alloc _)
          · intro ac wc hs hd hz hf hw K hK
            have p0 : ((.exl [(.mk 3 s .zero [e, X2])]) : SP).p (ac.eval (.tmp 83)) wc := hw 7 rfl
            obtain ⟨u0, e0⟩ : ∃ u, ac.eval (.tmp 83) = u := ⟨_, rfl⟩
            rw [e0] at p0
            clear hd hz hf hw
            simp only [Region.wanted, if_true, Oper.wp, execOp, resolve, List.map_toArray, List.map_cons, List.map_nil, Option.map_some, Option.map_none, e0]
            go_simp
            refine (op_v _ [73, 83, 78, 85, 76, 76] _ _ p0).mono ?_
            rintro e wd ⟨vt, rfl, ht9, hs9⟩
            exact hK _ _ ht9 hs9
          · intro ac wc hs hd hz hf hw K hK
            have p0 : (.tab : SP).p (ac.eval (.tmp 76)) wc := hw 0 rfl
            obtain ⟨u0, e0⟩ : ∃ u, ac.eval (.tmp 76) = u := ⟨_, rfl⟩
            rw [e0] at p0
            have e1 : ac.eval (.tmp 77) = (.slice Ar row.length cr) := hw 1 rfl
            have p2 : ((.tree (.mk 3 [73, 83, 78, 85, 76, 76] .zero [(.mk 3 s .zero [e, X2])])) : SP).p (ac.eval (.tmp 84)) wc := hw 8 rfl
            obtain ⟨u2, e2⟩ : ∃ u, ac.eval (.tmp 84) = u := ⟨_, rfl⟩
            rw [e2] at p2
            clear hd hz hf hw
            simp only [Region.wanted, if_true, Oper.wp, execOp, resolve, List.map_toArray, List.map_cons, List.map_nil, Option.map_some, Option.map_none, e0, e1, e2]
            go_simp
            refine (EvN.out _ _ _ _ p0 p2 (RowR.keepAll Hrow.out (HS7.out.trans hs))).mono ?_
            rintro e wd ⟨rfl, hs2⟩
            exact hK _ _ rfl hs2
          · intro ac wc hs hd hz hf hw K hK
            have e0 : ac.eval (.tmp 85) = (.tuple #[valV N.1, .int .i64 N.2]) := hw 9 rfl
            clear hd hz hf hw
            simp only [Region.wanted, if_true, Oper.wp, execOp, resolve, List.map_toArray, List.map_cons, List.map_nil, Option.map_some, Option.map_none, e0]
            go_simp
            exact hK _ _ rfl (Same.refl _ _)
          · intro ac wc hs hd hz hf hw K hK
            have e0 : ac.eval (.tmp 75) = (.tuple #[valV N.1, .int .i64 N.2]) := hw 10 rfl
            clear hd hz hf hw
            simp only [Region.wanted, if_true, Oper.wp, execOp, resolve, List.map_toArray, List.map_cons, List.map_nil, Option.map_some, Option.map_none, e0]
            go_simp
            exact hK _ _ rfl (Same.refl _ _)
          · intro ac wc hs hd hz hf hw K hK
            have e0 : ac.eval (.tmp 75) = (.tuple #[valV N.1, .int .i64 N.2]) := hw 10 rfl
            clear hd hz hf hw
            simp only [Region.wanted, if_true, Oper.wp, execOp, resolve, List.map_toArray, List.map_cons, List.map_nil, Option.map_some, Option.map_none, e0]
            go_simp
            exact hK _ _ rfl (Same.refl _ _)
          · intro ac wc hs hd hz hf hw K hK
            clear hd hz hf hw
            simp only [Region.wanted, if_true, Oper.wp, execOp, resolve, List.map_toArray, List.map_cons, List.map_nil, Option.map_some, Option.map_none]
            go_simp
            exact hK _ _ ⟨_, rfl, hs.size, Row.new wc _ (valCs .zero)⟩ ((Same.refl _ _).alloc _)
        · intro vs wR hvl hvp hsR
          rcases vs with _ | ⟨z0, _ | ⟨z1, _ | ⟨z2, _ | ⟨z3, _ | ⟨z4, _ | ⟨z5, _ | ⟨z6, _ | ⟨z7, _ | ⟨z8, _ | ⟨z9, _ | ⟨z10, _ | ⟨z11, _ | ⟨z12, _ | ⟨z13, _ | ⟨zz, zr⟩⟩⟩⟩⟩⟩⟩⟩⟩⟩⟩⟩⟩⟩⟩
          rotate_right 1
          · simp at hvl
          · simp at hvl
          · simp at hvl
          · simp at hvl
          · simp at hvl
          · simp at hvl
          · simp at hvl
          · simp at hvl
          · simp at hvl
          · simp at hvl
          · simp at hvl
          · simp at hvl
          · simp at hvl
          · simp at hvl
          · simp at hvl
          · have htb : (.tab : SP).p z0 wR := hvp 0 (by omega)
            obtain rfl : z1 = (.slice Ar row.length cr) := hvp 1 (by omega)
            obtain rfl : z2 = (.string (str s)) := hvp 2 (by omega)
            obtain rfl : z3 = (exV (.slice A e.args.length c) e) := hvp 3 (by omega)
            obtain rfl : z4 = (exV (.slice none 0 0) X2) := hvp 4 (by omega)
            have hsl81 : ((.exl [e, X2]) : SP).p z5 wR := hvp 5 (by omega)
            have htr82 : ((.tree (.mk 3 s .zero [e, X2])) : SP).p z6 wR := hvp 6 (by omega)
            have hsl83 : ((.exl [(.mk 3 s .zero [e, X2])]) : SP).p z7 wR := hvp 7 (by omega)
            have htr84 : ((.tree (.mk 3 [73, 83, 78, 85, 76, 76] .zero [(.mk 3 s .zero [e, X2])])) : SP).p z8 wR := hvp 8 (by omega)
            obtain rfl : z9 = (.tuple #[valV N.1, .int .i64 N.2]) := hvp 9 (by omega)
            obtain rfl : z10 = (.tuple #[valV N.1, .int .i64 N.2]) := hvp 10 (by omega)
            obtain rfl : z11 = (valV N.1) := hvp 11 (by omega)
            obtain rfl : z12 = (.int .i64 N.2) := hvp 12 (by omega)
            have hfr : ((.fresh W7.heap.size 23 (valCs .zero)) : SP).p z13 wR := hvp 13 (by omega)
            clear hvl hvp
            simp only [putAll, Act.put, List.setIfInBounds_toArray, List.set_cons_succ, List.set_cons_zero, List.take_succ_cons, List.take_zero, List.drop_succ_cons, List.drop_zero, List.eraseIdx_cons_succ, List.eraseIdx_cons_zero]
            obtain ⟨g, rfl, hg, hrg⟩ := hfr
            have y0 : wR.cell? ⟨g, 0, none⟩ = some (.int .i64 0) := hrg.cell 0
            have y1 : wR.cell? ⟨g, 1, none⟩ = some (.int .i64 0) := hrg.cell 1
            have y2 : wR.cell? ⟨g, 2, none⟩ = some (.string (str [])) := hrg.cell 2
            have x0 : wR.frozen? ⟨g, 0, none⟩ = false := hrg.frozen 0
            have x1 : wR.frozen? ⟨g, 1, none⟩ = false := hrg.frozen 1
            have x2 : wR.frozen? ⟨g, 2, none⟩ = false := hrg.frozen 2
            have Hrg := Lib.hid hrg
            have HsR := Lib.hid hsR
            have zG := hrg.lt
            clear hsR hrg 
            go_wp2
            go_meet
            exact ⟨_, g, rfl, rfl, rfl, hg, Hrg.out.set3 _, HsR.out.set3 (fun h => by omega) _ _ _⟩
        · intro vs wR hvl hvp hsR
          rcases vs with _ | ⟨z0, _ | ⟨z1, _ | ⟨z2, _ | ⟨z3, _ | ⟨z4, _ | ⟨z5, _ | ⟨z6, _ | ⟨z7, _ | ⟨z8, _ | ⟨z9, _ | ⟨z10, _ | ⟨z11, _ | ⟨z13, _ | ⟨zz, zr⟩⟩⟩⟩⟩⟩⟩⟩⟩⟩⟩⟩⟩⟩
          rotate_right 1
          · simp at hvl
          · simp at hvl
          · simp at hvl
          · simp at hvl
          · simp at hvl
          · simp at hvl
          · simp at hvl
          · simp at hvl
          · simp at hvl
          · simp at hvl
          · simp at hvl
          · simp at hvl
          · simp at hvl
          · simp at hvl
          · have htb : (.tab : SP).p z0 wR := hvp 0 (by omega)
            obtain rfl : z1 = (.slice Ar row.length cr) := hvp 1 (by omega)
            obtain rfl : z2 = (.string (str s)) := hvp 2 (by omega)
            obtain rfl : z3 = (exV (.slice A e.args.length c) e) := hvp 3 (by omega)
            obtain rfl : z4 = (exV (.slice none 0 0) X2) := hvp 4 (by omega)
            have hsl81 : ((.exl [e, X2]) : SP).p z5 wR := hvp 5 (by omega)
            have htr82 : ((.tree (.mk 3 s .zero [e, X2])) : SP).p z6 wR := hvp 6 (by omega)
            have hsl83 : ((.exl [(.mk 3 s .zero [e, X2])]) : SP).p z7 wR := hvp 7 (by omega)
            have htr84 : ((.tree (.mk 3 [73, 83, 78, 85, 76, 76] .zero [(.mk 3 s .zero [e, X2])])) : SP).p z8 wR := hvp 8 (by omega)
            obtain rfl : z9 = (.tuple #[valV N.1, .int .i64 N.2]) := hvp 9 (by omega)
            obtain rfl : z10 = (.tuple #[valV N.1, .int .i64 N.2]) := hvp 10 (by omega)
            obtain rfl : z11 = (valV N.1) := hvp 11 (by omega)
            have hfr : ((.fresh W7.heap.size 23 (valCs .zero)) : SP).p z13 wR := hvp 12 (by omega)
            clear hvl hvp
            simp only [putAll, Act.put, List.setIfInBounds_toArray, List.set_cons_succ, List.set_cons_zero, List.take_succ_cons, List.take_zero, List.drop_succ_cons, List.drop_zero, List.eraseIdx_cons_succ, List.eraseIdx_cons_zero]
            obtain ⟨g, rfl, hg, hrg⟩ := hfr
            have y0 : wR.cell? ⟨g, 0, none⟩ = some (.int .i64 0) := hrg.cell 0
            have y1 : wR.cell? ⟨g, 1, none⟩ = some (.int .i64 0) := hrg.cell 1
            have y2 : wR.cell? ⟨g, 2, none⟩ = some (.string (str [])) := hrg.cell 2
            have x0 : wR.frozen? ⟨g, 0, none⟩ = false := hrg.frozen 0
            have x1 : wR.frozen? ⟨g, 1, none⟩ = false := hrg.frozen 1
            have x2 : wR.frozen? ⟨g, 2, none⟩ = false := hrg.frozen 2
            have Hrg := Lib.hid hrg
            have HsR := Lib.hid hsR
            have zG := hrg.lt
            clear hsR hrg 
            go_wp2
            go_meet
            exact ⟨_, g, rfl, rfl, rfl, hg, Hrg.out.set3 _, HsR.out.set3 (fun h => by omega) _ _ _⟩
      case rest =>
        obtain ⟨W8, g8, rfl, rfl, rfl, hg8, hr8, hS8⟩ := hcut
        have hre := Hre.out.keep hS8 trivial
        have hrn := Hrn.out.keep hS8 trivial
        have hr6 := Hr6.out.keep hS8 trivial
        have hr7 := Hr7.out.keep hS8 trivial
        have HS8 := Lib.hid (HS7.out.trans hS8)
        clear hS8 Hre Hrn k0 k1 k2 k3 k4 k5 n0 n1 n2 n3 n4 n5 zk zn Hr6 Hr7 EvN
        have Hr6 := Lib.hid hr6
        have Hr7 := Lib.hid hr7
        have Hr8 := Lib.hid hr8
        clear hr6 hr7 hr8
        have k0 : W8.cell? ⟨w.heap.size, 0, none⟩ = some (.int .i64 e.kind) := hre.cell 0
        have k1 : W8.cell? ⟨w.heap.size, 1, none⟩ = some (.string (str e.s)) := hre.cell 1
        have k2 : W8.cell? ⟨w.heap.size, 2, none⟩ = some (.int .i64 e.v.kind) := hre.cell 2
        have k3 : W8.cell? ⟨w.heap.size, 3, none⟩ = some (.int .i64 e.v.n) := hre.cell 3
        have k4 : W8.cell? ⟨w.heap.size, 4, none⟩ = some (.string (str e.v.s)) := hre.cell 4
        have k5 : W8.cell? ⟨w.heap.size, 5, none⟩ = some (.slice A e.args.length c) := hre.cell 5
        have n0 : W8.cell? ⟨p, 0, none⟩ = some (.int .i64 X2.kind) := hrn.cell 0
        have n1 : W8.cell? ⟨p, 1, none⟩ = some (.string (str X2.s)) := hrn.cell 1
        have n2 : W8.cell? ⟨p, 2, none⟩ = some (.int .i64 X2.v.kind) := hrn.cell 2
        have n3 : W8.cell? ⟨p, 3, none⟩ = some (.int .i64 X2.v.n) := hrn.cell 3
        have n4 : W8.cell? ⟨p, 4, none⟩ = some (.string (str X2.v.s)) := hrn.cell 4
        have n5 : W8.cell? ⟨p, 5, none⟩ = some (.slice none 0 0) := hrn.cell 5
        have zk := hre.lt
        have zn := hrn.lt
        have Hre := Lib.hid hre
        have Hrn := Lib.hid hrn
        clear hre hrn
        go_wp2
        go_upto_region 11 with (fail)
        go_cut [16, 17] from 88 to 94 (fun vA vB wx => ∃ (W9 : World) (g : Nat), W9 = wx ∧ vA = .pointer (some ⟨g, 0, none⟩) ∧ vB = .int .i64 X.2 ∧ W8.heap.size ≤ g ∧ Row W9 g 23 (valCs X.1) ∧ Same (fun _ => True) W8 W9)
        case first =>
          refine wp_region_tail_d (L := [.of .tab, .eq (.slice Ar row.length cr), .eq (exV (.slice A e.args.length c) e), .eq (.tuple #[valV X.1, .int .i64 X.2]), .eq (.tuple #[valV X.1, .int .i64 X.2]), .eq (valV X.1), .eq (.int .i64 X.2), .of (.fresh W8.heap.size 23 (valCs .zero))]) 8 6 (by omega) (by kernel_rfl) (by kernel_rfl) rfl rfl rfl rfl rfl rfl ?_ ?_ ?_
          · refine ⟨?_, ?_, ?_, ?_, ?_, ?_, ?_, ?_, trivial⟩
            · intro ac wc hs hd hz hf hw K hK
              clear hd hz hf hw
              simp only [Region.wanted, if_true, Oper.wp, execOp, resolve, List.map_toArray, List.map_cons, List.map_nil, Option.map_some, Option.map_none]
              go_simp
              refine (table_any _).mono ?_
              rintro e wd ⟨vt, rfl, ht9, hs9⟩
              exact hK _ _ ht9 hs9
            · intro ac wc hs hd hz hf hw K hK
              have e0 : ac.eval (.tmp 2) = (.slice Ar row.length cr) := hf 2 rfl
              clear hd hz hf hw
              simp only [Region.wanted, if_true, Oper.wp, execOp, resolve, List.map_toArray, List.map_cons, List.map_nil, Option.map_some, Option.map_none, e0]
              go_simp
              exact hK _ _ rfl (Same.refl _ _)
            · intro ac wc hs hd hz hf hw K hK
              have e0 : ac.eval (.tmp 3) = (.pointer (some ⟨w.heap.size, 0, none⟩)) := hf 3 rfl
              have m0 : wc.cell? ⟨w.heap.size, 0, none⟩ = some (.int .i64 e.kind) := hs.cell (p := ⟨w.heap.size, 0, none⟩) trivial k0
              have m1 : wc.cell? ⟨w.heap.size, 1, none⟩ = some (.string (str e.s)) := hs.cell (p := ⟨w.heap.size, 1, none⟩) trivial k1
              have m2 : wc.cell? ⟨w.heap.size, 2, none⟩ = some (.int .i64 e.v.kind) := hs.cell (p := ⟨w.heap.size, 2, none⟩) trivial k2
              have m3 : wc.cell? ⟨w.heap.size, 3, none⟩ = some (.int .i64 e.v.n) := hs.cell (p := ⟨w.heap.size, 3, none⟩) trivial k3
              have m4 : wc.cell? ⟨w.heap.size, 4, none⟩ = some (.string (str e.v.s)) := hs.cell (p := ⟨w.heap.size, 4, none⟩) trivial k4
              have m5 : wc.cell? ⟨w.heap.size, 5, none⟩ = some (.slice A e.args.length c) := hs.cell (p := ⟨w.heap.size, 5, none⟩) trivial k5
              clear hd hz hf hw
              simp only [Region.wanted, if_true, Oper.wp, execOp, resolve, List.map_toArray, List.map_cons, List.map_nil, Option.map_some, Option.map_none, e0]
              go_simp
              exact hK _ _ rfl (Same.refl _ _)
            · intro ac wc hs hd hz hf hw K hK
              have p0 : (.tab : SP).p (ac.eval (.tmp 89)) wc := hw 0 rfl
              obtain ⟨u0, e0⟩ : ∃ u, ac.eval (.tmp 89) = u := ⟨_, rfl⟩
              rw [e0] at p0
              have e1 : ac.eval (.tmp 90) = (.slice Ar row.length cr) := hw 1 rfl
              have e2 : ac.eval (.tmp 91) = (exV (.slice A e.args.length c) e) := hw 2 rfl
              clear hd hz hf hw
              simp only [Region.wanted, if_true, Oper.wp, execOp, resolve, List.map_toArray, List.map_cons, List.map_nil, Option.map_some, Option.map_none, e0, e1, e2]
              go_simp
              refine (EvX.out _ _ _ _ p0 ⟨_, rfl, Hv.out.keepAll (HS8.out.trans hs)⟩ (RowR.keepAll Hrow.out (HS8.out.trans hs))).mono ?_
              rintro e wd ⟨rfl, hs2⟩
              exact hK _ _ rfl hs2
            · intro ac wc hs hd hz hf hw K hK
              have e0 : ac.eval (.tmp 92) = (.tuple #[valV X.1, .int .i64 X.2]) := hw 3 rfl
              clear hd hz hf hw
              simp only [Region.wanted, if_true, Oper.wp, execOp, resolve, List.map_toArray, List.map_cons, List.map_nil, Option.map_some, Option.map_none, e0]
              go_simp
              exact hK _ _ rfl (Same.refl _ _)
            · intro ac wc hs hd hz hf hw K hK
              have e0 : ac.eval (.tmp 88) = (.tuple #[valV X.1, .int .i64 X.2]) := hw 4 rfl
              clear hd hz hf hw
              simp only [Region.wanted, if_true, Oper.wp, execOp, resolve, List.map_toArray, List.map_cons, List.map_nil, Option.map_some, Option.map_none, e0]
              go_simp
              exact hK _ _ rfl (Same.refl _ _)
            · intro ac wc hs hd hz hf hw K hK
              have e0 : ac.eval (.tmp 88) = (.tuple #[valV X.1, .int .i64 X.2]) := hw 4 rfl
              clear hd hz hf hw
              simp only [Region.wanted, if_true, Oper.wp, execOp, resolve, List.map_toArray, List.map_cons, List.map_nil, Option.map_some, Option.map_none, e0]
              go_simp
              exact hK _ _ rfl (Same.refl _ _)
            · intro ac wc hs hd hz hf hw K hK
              clear hd hz hf hw
              simp only [Region.wanted, if_true, Oper.wp, execOp, resolve, List.map_toArray, List.map_cons, List.map_nil, Option.map_some, Option.map_none]
              go_simp
              exact hK _ _ ⟨_, rfl, hs.size, Row.new wc _ (valCs .zero)⟩ ((Same.refl _ _).alloc _)
          · intro vs wR hvl hvp hsR
            rcases vs with _ | ⟨z0, _ | ⟨z1, _ | ⟨z2, _ | ⟨z3, _ | ⟨z4, _ | ⟨z5, _ | ⟨z6, _ | ⟨z7, _ | ⟨zz, zr⟩⟩⟩⟩⟩⟩⟩⟩⟩
            rotate_right 1
            · simp at hvl
            · simp at hvl
            · simp at hvl
            · simp at hvl
            · simp at hvl
            · simp at hvl
            · simp at hvl
            · simp at hvl
            · simp at hvl
            · have htb : (.tab : SP).p z0 wR := hvp 0 (by omega)
              obtain rfl : z1 = (.slice Ar row.length cr) := hvp 1 (by omega)
              obtain rfl : z2 = (exV (.slice A e.args.length c) e) := hvp 2 (by omega)
              obtain rfl : z3 = (.tuple #[valV X.1, .int .i64 X.2]) := hvp 3 (by omega)
              obtain rfl : z4 = (.tuple #[valV X.1, .int .i64 X.2]) := hvp 4 (by omega)
              obtain rfl : z5 = (valV X.1) := hvp 5 (by omega)
              obtain rfl : z6 = (.int .i64 X.2) := hvp 6 (by omega)
              have hfr : ((.fresh W8.heap.size 23 (valCs .zero)) : SP).p z7 wR := hvp 7 (by omega)
              clear hvl hvp
              simp only [putAll, Act.put, List.setIfInBounds_toArray, List.set_cons_succ, List.set_cons_zero, List.take_succ_cons, List.take_zero, List.drop_succ_cons, List.drop_zero, List.eraseIdx_cons_succ, List.eraseIdx_cons_zero]
              obtain ⟨g, rfl, hg, hrg⟩ := hfr
              have y0 : wR.cell? ⟨g, 0, none⟩ = some (.int .i64 0) := hrg.cell 0
              have y1 : wR.cell? ⟨g, 1, none⟩ = some (.int .i64 0) := hrg.cell 1
              have y2 : wR.cell? ⟨g, 2, none⟩ = some (.string (str [])) := hrg.cell 2
              have x0 : wR.frozen? ⟨g, 0, none⟩ = false := hrg.frozen 0
              have x1 : wR.frozen? ⟨g, 1, none⟩ = false := hrg.frozen 1
              have x2 : wR.frozen? ⟨g, 2, none⟩ = false := hrg.frozen 2
              have Hrg := Lib.hid hrg
              have HsR := Lib.hid hsR
              have zG := hrg.lt
              clear hsR hrg 
              go_wp2
              go_meet
              exact ⟨_, g, rfl, rfl, rfl, hg, Hrg.out.set3 _, HsR.out.set3 (fun h => by omega) _ _ _⟩
          · intro vs wR hvl hvp hsR
            rcases vs with _ | ⟨z0, _ | ⟨z1, _ | ⟨z2, _ | ⟨z3, _ | ⟨z4, _ | ⟨z5, _ | ⟨z7, _ | ⟨zz, zr⟩⟩⟩⟩⟩⟩⟩⟩
            rotate_right 1
            · simp at hvl
            · simp at hvl
            · simp at hvl
            · simp at hvl
            · simp at hvl
            · simp at hvl
            · simp at hvl
            · simp at hvl
            · have htb : (.tab : SP).p z0 wR := hvp 0 (by omega)
              obtain rfl : z1 = (.slice Ar row.length cr) := hvp 1 (by omega)
              obtain rfl : z2 = (exV (.slice A e.args.length c) e) := hvp 2 (by omega)
              obtain rfl : z3 = (.tuple #[valV X.1, .int .i64 X.2]) := hvp 3 (by omega)
              obtain rfl : z4 = (.tuple #[valV X.1, .int .i64 X.2]) := hvp 4 (by omega)
              obtain rfl : z5 = (valV X.1) := hvp 5 (by omega)
              have hfr : ((.fresh W8.heap.size 23 (valCs .zero)) : SP).p z7 wR := hvp 6 (by omega)
              clear hvl hvp
              simp only [putAll, Act.put, List.setIfInBounds_toArray, List.set_cons_succ, List.set_cons_zero, List.take_succ_cons, List.take_zero, List.drop_succ_cons, List.drop_zero, List.eraseIdx_cons_succ, List.eraseIdx_cons_zero]
              obtain ⟨g, rfl, hg, hrg⟩ := hfr
              have y0 : wR.cell? ⟨g, 0, none⟩ = some (.int .i64 0) := hrg.cell 0
              have y1 : wR.cell? ⟨g, 1, none⟩ = some (.int .i64 0) := hrg.cell 1
              have y2 : wR.cell? ⟨g, 2, none⟩ = some (.string (str [])) := hrg.cell 2
              have x0 : wR.frozen? ⟨g, 0, none⟩ = false := hrg.frozen 0
              have x1 : wR.frozen? ⟨g, 1, none⟩ = false := hrg.frozen 1
              have x2 : wR.frozen? ⟨g, 2, none⟩ = false := hrg.frozen 2
              have Hrg := Lib.hid hrg
              have HsR := Lib.hid hsR
              have zG := hrg.lt
              clear hsR hrg 
              go_wp2
              go_meet
              exact ⟨_, g, rfl, rfl, rfl, hg, Hrg.out.set3 _, HsR.out.set3 (fun h => by omega) _ _ _⟩
        case rest =>
          obtain ⟨W9, g9, rfl, rfl, rfl, hg9, hr9, hS9⟩ := hcut
          have hre := Hre.out.keep hS9 trivial
          have hrn := Hrn.out.keep hS9 trivial
          have hr6 := Hr6.out.keep hS9 trivial
          have hr7 := Hr7.out.keep hS9 trivial
          have hr8 := Hr8.out.keep hS9 trivial
          have HS9 := Lib.hid (HS8.out.trans hS9)
          clear hS9 Hre Hrn k0 k1 k2 k3 k4 k5 n0 n1 n2 n3 n4 n5 zk zn Hr6 Hr7 Hr8 EvX
          have Hr6 := Lib.hid hr6
          have Hr7 := Lib.hid hr7
          have Hr8 := Lib.hid hr8
          have Hr9 := Lib.hid hr9
          clear hr6 hr7 hr8 hr9
          have k0 : W9.cell? ⟨w.heap.size, 0, none⟩ = some (.int .i64 e.kind) := hre.cell 0
          have k1 : W9.cell? ⟨w.heap.size, 1, none⟩ = some (.string (str e.s)) := hre.cell 1
          have k2 : W9.cell? ⟨w.heap.size, 2, none⟩ = some (.int .i64 e.v.kind) := hre.cell 2
          have k3 : W9.cell? ⟨w.heap.size, 3, none⟩ = some (.int .i64 e.v.n) := hre.cell 3
          have k4 : W9.cell? ⟨w.heap.size, 4, none⟩ = some (.string (str e.v.s)) := hre.cell 4
          have k5 : W9.cell? ⟨w.heap.size, 5, none⟩ = some (.slice A e.args.length c) := hre.cell 5
          have n0 : W9.cell? ⟨p, 0, none⟩ = some (.int .i64 X2.kind) := hrn.cell 0
          have n1 : W9.cell? ⟨p, 1, none⟩ = some (.string (str X2.s)) := hrn.cell 1
          have n2 : W9.cell? ⟨p, 2, none⟩ = some (.int .i64 X2.v.kind) := hrn.cell 2
          have n3 : W9.cell? ⟨p, 3, none⟩ = some (.int .i64 X2.v.n) := hrn.cell 3
          have n4 : W9.cell? ⟨p, 4, none⟩ = some (.string (str X2.v.s)) := hrn.cell 4
          have n5 : W9.cell? ⟨p, 5, none⟩ = some (.slice none 0 0) := hrn.cell 5
          have zk := hre.lt
          have zn := hrn.lt
          have Hre := Lib.hid hre
          have Hrn := Lib.hid hrn
          clear hre hrn
          go_wp2
          go_upto_region 12 with (fail)
          go_cut [18, 19] from 95 to 103 (fun vA vB wx => ∃ (W10 : World) (g : Nat), W10 = wx ∧ vA = .pointer (some ⟨g, 0, none⟩) ∧ vB = .int .i64 Y.2 ∧ W9.heap.size ≤ g ∧ Row W10 g 23 (valCs Y.1) ∧ Same (fun _ => True) W9 W10)
          case first =>
            refine wp_region_tail_d (L := [.of .tab, .eq (.slice Ar row.length cr), .eq (exV (.slice A e.args.length c) e), .of (.exl [e]), .of (.tree (.mk 3 [73, 83, 78, 85, 76, 76] .zero [e])), .eq (.tuple #[valV Y.1, .int .i64 Y.2]), .eq (.tuple #[valV Y.1, .int .i64 Y.2]), .eq (valV Y.1), .eq (.int .i64 Y.2), .of (.fresh W9.heap.size 23 (valCs .zero))]) 10 8 (by omega) (by kernel_rfl) (by kernel_rfl) rfl rfl rfl rfl rfl rfl ?_ ?_ ?_
            · refine ⟨?_, ?_, ?_, ?_, ?_, ?_, ?_, ?_, ?_, ?_, trivial⟩
              · intro ac wc hs hd hz hf hw K hK
                clear hd hz hf hw
                simp only [Region.wanted, if_true, Oper.wp, execOp, resolve, List.map_toArray, List.map_cons, List.map_nil, Option.map_some, Option.map_none]
                go_simp
                refine (table_any _).mono ?_
                rintro e wd ⟨vt, rfl, ht9, hs9⟩
                exact hK _ _ ht9 hs9
              · intro ac wc hs hd hz hf hw K hK
                have e0 : ac.eval (.tmp 2) = (.slice Ar row.length cr) := hf 2 rfl
                clear hd hz hf hw
                simp only [Region.wanted, if_true, Oper.wp, execOp, resolve, List.map_toArray, List.map_cons, List.map_nil, Option.map_some, Option.map_none, e0]
                go_simp
                exact hK _ _ rfl (Same.refl _ _)
              · intro ac wc hs hd hz hf hw K hK
                have e0 : ac.eval (.tmp 3) = (.pointer (some ⟨w.heap.size, 0, none⟩)) := hf 3 rfl
                have m0 : wc.cell? ⟨w.heap.size, 0, none⟩ = some (.int .i64 e.kind) := hs.cell (p := ⟨w.heap.size, 0, none⟩) trivial k0
                have m1 : wc.cell? ⟨w.heap.size, 1, none⟩ = some (.string (str e.s)) := hs.cell (p := ⟨w.heap.size, 1, none⟩) trivial k1
                have m2 : wc.cell? ⟨w.heap.size, 2, none⟩ = some (.int .i64 e.v.kind) := hs.cell (p := ⟨w.heap.size, 2, none⟩) trivial k2
                have m3 : wc.cell? ⟨w.heap.size, 3, none⟩ = some (.int .i64 e.v.n) := hs.cell (p := ⟨w.heap.size, 3, none⟩) trivial k3
                have m4 : wc.cell? ⟨w.heap.size, 4, none⟩ = some (.string (str e.v.s)) := hs.cell (p := ⟨w.heap.size, 4, none⟩) trivial k4
                have m5 : wc.cell? ⟨w.heap.size, 5, none⟩ = some (.slice A e.args.length c) := hs.cell (p := ⟨w.heap.size, 5, none⟩) trivial k5
                clear hd hz hf hw
                simp only [Region.wanted, if_true, Oper.wp, execOp, resolve, List.map_toArray, List.map_cons, List.map_nil, Option.map_some, Option.map_none, e0]
                go_simp
                exact hK _ _ rfl (Same.refl _ _)
              · intro ac wc hs hd hz hf hw K hK
                have e0 : ac.eval (.tmp 98) = (exV (.slice A e.args.length c) e) := hw 2 rfl
                clear hd hz hf hw
                simp only [Region.wanted, if_true, Oper.wp, execOp, resolve, List.map_toArray, List.map_cons, List.map_nil, Option.map_some, Option.map_none, e0]
                go_simp
                exact hK _ _ (ExL.fresh1 wc (Hv.out.keepAll (HS9.out.trans hs))) ((Same.refl _ _).alloc _)
              · intro ac wc hs hd hz hf hw K hK
                have p0 : ((.exl [e]) : SP).p (ac.eval (.tmp 99)) wc := hw 3 rfl
                obtain ⟨u0, e0⟩ : ∃ u, ac.eval (.tmp 99) = u := ⟨_, rfl⟩
                rw [e0] at p0
                clear hd hz hf hw
                simp only [Region.wanted, if_true, Oper.wp, execOp, resolve, List.map_toArray, List.map_cons, List.map_nil, Option.map_some, Option.map_none, e0]
                go_simp
                refine (op_v _ [73, 83, 78, 85, 76, 76] _ _ p0).mono ?_
                rintro e wd ⟨vt, rfl, ht9, hs9⟩
                exact hK _ _ ht9 hs9
              · intro ac wc hs hd hz hf hw K hK
                have p0 : (.tab : SP).p (ac.eval (.tmp 96)) wc := hw 0 rfl
                obtain ⟨u0, e0⟩ : ∃ u, ac.eval (.tmp 96) = u := ⟨_, rfl⟩
                rw [e0] at p0
                have e1 : ac.eval (.tmp 97) = (.slice Ar row.length cr) := hw 1 rfl
                have p2 : ((.tree (.mk 3 [73, 83, 78, 85, 76, 76] .zero [e])) : SP).p (ac.eval (.tmp 100)) wc := hw 4 rfl
                obtain ⟨u2, e2⟩ : ∃ u, ac.eval (.tmp 100) = u := ⟨_, rfl⟩
                rw [e2] at p2
                clear hd hz hf hw
                simp only [Region.wanted, if_true, Oper.wp, execOp, resolve, List.map_toArray, List.map_cons, List.map_nil, Option.map_some, Option.map_none, e0, e1, e2]
                go_simp
                refine (EvY.out _ _ _ _ p0 p2 (RowR.keepAll Hrow.out (HS9.out.trans hs))).mono ?_
                rintro e wd ⟨rfl, hs2⟩
                exact hK _ _ rfl hs2
              · intro ac wc hs hd hz hf hw K hK
                have e0 : ac.eval (.tmp 101) = (.tuple #[valV Y.1, .int .i64 Y.2]) := hw 5 rfl
                clear hd hz hf hw
                simp only [Region.wanted, if_true, Oper.wp, execOp, resolve, List.map_toArray, List.map_cons, List.map_nil, Option.map_some, Option.map_none, e0]
                go_simp
                exact hK _ _ rfl (Same.refl _ _)
              · intro ac wc hs hd hz hf hw K hK
                have e0 : ac.eval (.tmp 95) = (.tuple #[valV Y.1, .int .i64 Y.2]) := hw 6 rfl
                clear hd hz hf hw
                simp only [Region.wanted, if_true, Oper.wp, execOp, resolve, List.map_toArray, List.map_cons, List.map_nil, Option.map_some, Option.map_none, e0]
                go_simp
                exact hK _ _ rfl (Same.refl _ _)
              · intro ac wc hs hd hz hf hw K hK
                have e0 : ac.eval (.tmp 95) = (.tuple #[valV Y.1, .int .i64 Y.2]) := hw 6 rfl
                clear hd hz hf hw
                simp only [Region.wanted, if_true, Oper.wp, execOp, resolve, List.map_toArray, List.map_cons, List.map_nil, Option.map_some, Option.map_none, e0]
                go_simp
                exact hK _ _ rfl (Same.refl _ _)
              · intro ac wc hs hd hz hf hw K hK
                clear hd hz hf hw
                simp only [Region.wanted, if_true, Oper.wp, execOp, resolve, List.map_toArray, List.map_cons, List.map_nil, Option.map_some, Option.map_none]
                go_simp
                exact hK _ _ ⟨_, rfl, hs.size, Row.new wc _ (valCs .zero)⟩ ((Same.refl _ _).alloc _)
            · intro vs wR hvl hvp hsR
              rcases vs with _ | ⟨z0, _ | ⟨z1, _ | ⟨z2, _ | ⟨z3, _ | ⟨z4, _ | ⟨z5, _ | ⟨z6, _ | ⟨z7, _ | ⟨z8, _ | ⟨z9, _ | ⟨zz, zr⟩⟩⟩⟩⟩⟩⟩⟩⟩⟩⟩
              rotate_right 1
              · simp at hvl
              · simp at hvl
              · simp at hvl
              · simp at hvl
              · simp at hvl
              · simp at hvl
              · simp at hvl
              · simp at hvl
              · simp at hvl
              · simp at hvl
              · simp at hvl
              · have htb : (.tab : SP).p z0 wR := hvp 0 (by omega)
                obtain rfl : z1 = (.slice Ar row.length cr) := hvp 1 (by omega)
                obtain rfl : z2 = (exV (.slice A e.args.length c) e) := hvp 2 (by omega)
                have hsl99 : ((.exl [e]) : SP).p z3 wR := hvp 3 (by omega)
                have htr100 : ((.tree (.mk 3 [73, 83, 78, 85, 76, 76] .zero [e])) : SP).p z4 wR := hvp 4 (by omega)
                obtain rfl : z5 = (.tuple #[valV Y.1, .int .i64 Y.2]) := hvp 5 (by omega)
                obtain rfl : z6 = (.tuple #[valV Y.1, .int .i64 Y.2]) := hvp 6 (by omega)
                obtain rfl : z7 = (valV Y.1) := hvp 7 (by omega)
                obtain rfl : z8 = (.int .i64 Y.2) := hvp 8 (by omega)
                have hfr : ((.fresh W9.heap.size 23 (valCs .zero)) : SP).p z9 wR := hvp 9 (by omega)
                clear hvl hvp
                simp only [putAll, Act.put, List.setIfInBounds_toArray, List.set_cons_succ, List.set_cons_zero, List.take_succ_cons, List.take_zero, List.drop_succ_cons, List.drop_zero, List.eraseIdx_cons_succ, List.eraseIdx_cons_zero]
                obtain ⟨g, rfl, hg, hrg⟩ := hfr
                have y0 : wR.cell? ⟨g, 0, none⟩ = some (.int .i64 0) := hrg.cell 0
                have y1 : wR.cell? ⟨g, 1, none⟩ = some (.int .i64 0) := hrg.cell 1
                have y2 : wR.cell? ⟨g, 2, none⟩ = some (.string (str [])) := hrg.cell 2
                have x0 : wR.frozen? ⟨g, 0, none⟩ = false := hrg.frozen 0
                have x1 : wR.frozen? ⟨g, 1, none⟩ = false := hrg.frozen 1
                have x2 : wR.frozen? ⟨g, 2, none⟩ = false := hrg.frozen 2
                have Hrg := Lib.hid hrg
                have HsR := Lib.hid hsR
                have zG := hrg.lt
                clear hsR hrg 
                go_wp2
                go_meet
                exact ⟨_, g, rfl, rfl, rfl, hg, Hrg.out.set3 _, HsR.out.set3 (fun h => by omega) _ _ _⟩
            · intro vs wR hvl hvp hsR
              rcases vs with _ | ⟨z0, _ | ⟨z1, _ | ⟨z2, _ | ⟨z3, _ | ⟨z4, _ | ⟨z5, _ | ⟨z6, _ | ⟨z7, _ | ⟨z9, _ | ⟨zz, zr⟩⟩⟩⟩⟩⟩⟩⟩⟩⟩
              rotate_right 1
              · simp at hvl
              · simp at hvl
              · simp at hvl
              · simp at hvl
              · simp at hvl
              · simp at hvl
              · simp at hvl
              · simp at hvl
              · simp at hvl
              · simp at hvl
              · have htb : (.tab : SP).p z0 wR := hvp 0 (by omega)
                obtain rfl : z1 = (.slice Ar row.length cr) := hvp 1 (by omega)
                obtain rfl : z2 = (exV (.slice A e.args.length c) e) := hvp 2 (by omega)
                have hsl99 : ((.exl [e]) : SP).p z3 wR := hvp 3 (by omega)
                have htr100 : ((.tree (.mk 3 [73, 83, 78, 85, 76, 76] .zero [e])) : SP).p z4 wR := hvp 4 (by omega)
                obtain rfl : z5 = (.tuple #[valV Y.1, .int .i64 Y.2]) := hvp 5 (by omega)
                obtain rfl : z6 = (.tuple #[valV Y.1, .int .i64 Y.2]) := hvp 6 (by omega)
                obtain rfl : z7 = (valV Y.1) := hvp 7 (by omega)
                have hfr : ((.fresh W9.heap.size 23 (valCs .zero)) : SP).p z9 wR := hvp 8 (by omega)
                clear hvl hvp
                simp only [putAll, Act.put, List.setIfInBounds_toArray, List.set_cons_succ, List.set_cons_zero, List.take_succ_cons, List.take_zero, List.drop_succ_cons, List.drop_zero, List.eraseIdx_cons_succ, List.eraseIdx_cons_zero]
                obtain ⟨g, rfl, hg, hrg⟩ := hfr
                have y0 : wR.cell? ⟨g, 0, none⟩ = some (.int .i64 0) := hrg.cell 0
                have y1 : wR.cell? ⟨g, 1, none⟩ = some (.int .i64 0) := hrg.cell 1
                have y2 : wR.cell? ⟨g, 2, none⟩ = some (.string (str [])) := hrg.cell 2
                have x0 : wR.frozen? ⟨g, 0, none⟩ = false := hrg.frozen 0
                have x1 : wR.frozen? ⟨g, 1, none⟩ = false := hrg.frozen 1
                have x2 : wR.frozen? ⟨g, 2, none⟩ = false := hrg.frozen 2
                have Hrg := Lib.hid hrg
                have HsR := Lib.hid hsR
                have zG := hrg.lt
                clear hsR hrg 
                go_wp2
                go_meet
                exact ⟨_, g, rfl, rfl, rfl, hg, Hrg.out.set3 _, HsR.out.set3 (fun h => by omega) _ _ _⟩
          case rest =>
            obtain ⟨W10, g10, rfl, rfl, rfl, hg10, hr10, hS10⟩ := hcut
            have hre := Hre.out.keep hS10 trivial
            have hrn := Hrn.out.keep hS10 trivial
            have hr6 := Hr6.out.keep hS10 trivial
            have hr7 := Hr7.out.keep hS10 trivial
            have hr8 := Hr8.out.keep hS10 trivial
            have hr9 := Hr9.out.keep hS10 trivial
            have HS10 := Lib.hid (HS9.out.trans hS10)
            clear hS10 Hre Hrn k0 k1 k2 k3 k4 k5 n0 n1 n2 n3 n4 n5 zk zn Hr6 Hr7 Hr8 Hr9 EvY
            have Hr6 := Lib.hid hr6
            have Hr7 := Lib.hid hr7
            have Hr8 := Lib.hid hr8
            have Hr9 := Lib.hid hr9
            have Hr10 := Lib.hid hr10
            clear hr6 hr7 hr8 hr9 hr10
            have k0 : W10.cell? ⟨w.heap.size, 0, none⟩ = some (.int .i64 e.kind) := hre.cell 0
            have k1 : W10.cell? ⟨w.heap.size, 1, none⟩ = some (.string (str e.s)) := hre.cell 1
            have k2 : W10.cell? ⟨w.heap.size, 2, none⟩ = some (.int .i64 e.v.kind) := hre.cell 2
            have k3 : W10.cell? ⟨w.heap.size, 3, none⟩ = some (.int .i64 e.v.n) := hre.cell 3
            have k4 : W10.cell? ⟨w.heap.size, 4, none⟩ = some (.string (str e.v.s)) := hre.cell 4
            have k5 : W10.cell? ⟨w.heap.size, 5, none⟩ = some (.slice A e.args.length c) := hre.cell 5
            have n0 : W10.cell? ⟨p, 0, none⟩ = some (.int .i64 X2.kind) := hrn.cell 0
            have n1 : W10.cell? ⟨p, 1, none⟩ = some (.string (str X2.s)) := hrn.cell 1
            have n2 : W10.cell? ⟨p, 2, none⟩ = some (.int .i64 X2.v.kind) := hrn.cell 2
            have n3 : W10.cell? ⟨p, 3, none⟩ = some (.int .i64 X2.v.n) := hrn.cell 3
            have n4 : W10.cell? ⟨p, 4, none⟩ = some (.string (str X2.v.s)) := hrn.cell 4
            have n5 : W10.cell? ⟨p, 5, none⟩ = some (.slice none 0 0) := hrn.cell 5
            have zk := hre.lt
            have zn := hrn.lt
            have Hre := Lib.hid hre
            have Hrn := Lib.hid hrn
            clear hre hrn
            go_wp2
            go_upto_region 13 with (fail)
            go_cut [20, 21] from 104 to 112 (fun vA vB wx => ∃ (W11 : World) (g : Nat), W11 = wx ∧ vA = .pointer (some ⟨g, 0, none⟩) ∧ vB = .int .i64 Z.2 ∧ W10.heap.size ≤ g ∧ Row W11 g 23 (valCs Z.1) ∧ Same (fun _ => True) W10 W11)
            case first =>
              refine wp_region_tail_d (L := [.of .tab, .eq (.slice Ar row.length cr), .eq (exV (.slice A e.args.length c) e), .of (.exl [e]), .of (.tree (.mk 3 [78, 79, 84, 78, 85, 76, 76] .zero [e])), .eq (.tuple #[valV Z.1, .int .i64 Z.2]), .eq (.tuple #[valV Z.1, .int .i64 Z.2]), .eq (valV Z.1), .eq (.int .i64 Z.2), .of (.fresh W10.heap.size 23 (valCs .zero))]) 10 8 (by omega) (by kernel_rfl) (by kernel_rfl) rfl rfl rfl rfl rfl rfl ?_ ?_ ?_
              · refine ⟨?_, ?_, ?_, ?_, ?_, ?_, ?_, ?_, ?_, ?_, trivial⟩
                · intro ac wc hs hd hz hf hw K hK
                  clear hd hz hf hw
                  simp only [Region.wanted, if_true, Oper.wp, execOp, resolve, List.map_toArray, List.map_cons, List.map_nil, Option.map_some, Option.map_none]
                  go_simp
                  refine (table_any _).mono ?_
                  rintro e wd ⟨vt, rfl, ht9, hs9⟩
                  exact hK _ _ ht9 hs9
                · intro ac wc hs hd hz hf hw K hK
                  have e0 : ac.eval (.tmp 2) = (.slice Ar row.length cr) := hf 2 rfl
                  clear hd hz hf hw
                  simp only [Region.wanted, if_true, Oper.wp, execOp, resolve, List.map_toArray, List.map_cons, List.map_nil, Option.map_some, Option.map_none, e0]
                  go_simp
                  exact hK _ _ rfl (Same.refl _ _)
                · intro ac wc hs hd hz hf hw K hK
                  have e0 : ac.eval (.tmp 3) = (.pointer (some ⟨w.heap.size, 0, none⟩)) := hf 3 rfl
                  have m0 : wc.cell? ⟨w.heap.size, 0, none⟩ = some (.int .i64 e.kind) := hs.cell (p := ⟨w.heap.size, 0, none⟩) trivial k0
                  have m1 : wc.cell? ⟨w.heap.size, 1, none⟩ = some (.string (str e.s)) := hs.cell (p := ⟨w.heap.size, 1, none⟩) trivial k1
                  have m2 : wc.cell? ⟨w.heap.size, 2, none⟩ = some (.int .i64 e.v.kind) := hs.cell (p := ⟨w.heap.size, 2, none⟩) trivial k2
                  have m3 : wc.cell? ⟨w.heap.size, 3, none⟩ = some (.int .i64 e.v.n) := hs.cell (p := ⟨w.heap.size, 3, none⟩) trivial k3
                  have m4 : wc.cell? ⟨w.heap.size, 4, none⟩ = some (.string (str e.v.s)) := hs.cell (p := ⟨w.heap.size, 4, none⟩) trivial k4
                  have m5 : wc.cell? ⟨w.heap.size, 5, none⟩ = some (.slice A e.args.length c) := hs.cell (p := ⟨w.heap.size, 5, none⟩) trivial k5
                  clear hd hz hf hw
                  simp only [Region.wanted, if_true, Oper.wp, execOp, resolve, List.map_toArray, List.map_cons, List.map_nil, Option.map_some, Option.map_none, e0]
                  go_simp
                  exact hK _ _ rfl (Same.refl _ _)
                · intro ac wc hs hd hz hf hw K hK
                  have e0 : ac.eval (.tmp 107) = (exV (.slice A e.args.length c) e) := hw 2 rfl
                  clear hd hz hf hw
                  simp only [Region.wanted, if_true, Oper.wp, execOp, resolve, List.map_toArray, List.map_cons, List.map_nil, Option.map_some, Option.map_none, e0]
                  go_simp
                  exact hK _ _ (ExL.fresh1 wc (Hv.out.keepAll (HS10.out.trans hs))) ((Same.refl _ _).alloc _)
                · intro ac wc hs hd hz hf hw K hK
                  have p0 : ((.exl [e]) : SP).p (ac.eval (.tmp 108)) wc := hw 3 rfl
                  obtain ⟨u0, e0⟩ : ∃ u, ac.eval (.tmp 108) = u := ⟨_, rfl⟩
                  rw [e0] at p0
                  clear hd hz hf hw
                  simp only [Region.wanted, if_true, Oper.wp, execOp, resolve, List.map_toArray, List.map_cons, List.map_nil, Option.map_some, Option.map_none, e0]
                  go_simp
                  refine (op_v _ [78, 79, 84, 78, 85, 76, 76] _ _ p0).mono ?_
                  rintro e wd ⟨vt, rfl, ht9, hs9⟩
                  exact hK _ _ ht9 hs9
                · intro ac wc hs hd hz hf hw K hK
                  have p0 : (.tab : SP).p (ac.eval (.tmp 105)) wc := hw 0 rfl
                  obtain ⟨u0, e0⟩ : ∃ u, ac.eval (.tmp 105) = u := ⟨_, rfl⟩
                  rw [e0] at p0
                  have e1 : ac.eval (.tmp 106) = (.slice Ar row.length cr) := hw 1 rfl
                  have p2 : ((.tree (.mk 3 [78, 79, 84, 78, 85, 76, 76] .zero [e])) : SP).p (ac.eval (.tmp 109)) wc := hw 4 rfl
                  obtain ⟨u2, e2⟩ : ∃ u, ac.eval (.tmp 109) = u := ⟨_, rfl⟩
                  rw [e2] at p2
                  clear hd hz hf hw
                  simp only [Region.wanted, if_true, Oper.wp, execOp, resolve, List.map_toArray, List.map_cons, List.map_nil, Option.map_some, Option.map_none, e0, e1, e2]
                  go_simp
                  refine (EvZ.out _ _ _ _ p0 p2 (RowR.keepAll Hrow.out (HS10.out.trans hs))).mono ?_
                  rintro e wd ⟨rfl, hs2⟩
                  exact hK _ _ rfl hs2
                · intro ac wc hs hd hz hf hw K hK
                  have e0 : ac.eval (.tmp 110) = (.tuple #[valV Z.1, .int .i64 Z.2]) := hw 5 rfl
                  clear hd hz hf hw
                  simp only [Region.wanted, if_true, Oper.wp, execOp, resolve, List.map_toArray, List.map_cons, List.map_nil, Option.map_some, Option.map_none, e0]
                  go_simp
                  exact hK _ _ rfl (Same.refl _ _)
                · intro ac wc hs hd hz hf hw K hK
                  have e0 : ac.eval (.tmp 104) = (.tuple #[valV Z.1, .int .i64 Z.2]) := hw 6 rfl
                  clear hd hz hf hw
                  simp only [Region.wanted, if_true, Oper.wp, execOp, resolve, List.map_toArray, List.map_cons, List.map_nil, Option.map_some, Option.map_none, e0]
                  go_simp
                  exact hK _ _ rfl (Same.refl _ _)
                · intro ac wc hs hd hz hf hw K hK
                  have e0 : ac.eval (.tmp 104) = (.tuple #[valV Z.1, .int .i64 Z.2]) := hw 6 rfl
                  clear hd hz hf hw
                  simp only [Region.wanted, if_true, Oper.wp, execOp, resolve, List.map_toArray, List.map_cons, List.map_nil, Option.map_some, Option.map_none, e0]
                  go_simp
                  exact hK _ _ rfl (Same.refl _ _)
                · intro ac wc hs hd hz hf hw K hK
                  clear hd hz hf hw
                  simp only [Region.wanted, if_true, Oper.wp, execOp, resolve, List.map_toArray, List.map_cons, List.map_nil, Option.map_some, Option.map_none]
                  go_simp
                  exact hK _ _ ⟨_, rfl, hs.size, Row.new wc _ (valCs .zero)⟩ ((Same.refl _ _).alloc _)
              · intro vs wR hvl hvp hsR
                rcases vs with _ | ⟨z0, _ | ⟨z1, _ | ⟨z2, _ | ⟨z3, _ | ⟨z4, _ | ⟨z5, _ | ⟨z6, _ | ⟨z7, _ | ⟨z8, _ | ⟨z9, _ | ⟨zz, zr⟩⟩⟩⟩⟩⟩⟩⟩⟩⟩⟩
                rotate_right 1
                · simp at hvl
                · simp at hvl
                · simp at hvl
                · simp at hvl
                · simp at hvl
                · simp at hvl
                · simp at hvl
                · simp at hvl
                · simp at hvl
                · simp at hvl
                · simp at hvl
                · have htb : (.tab : SP).p z0 wR := hvp 0 (by omega)
                  obtain rfl : z1 = (.slice Ar row.length cr) := hvp 1 (by omega)
                  obtain rfl : z2 = (exV (.slice A e.args.length c) e) := hvp 2 (by omega)
                  have hsl108 : ((.exl [e]) : SP).p z3 wR := hvp 3 (by omega)
                  have htr109 : ((.tree (.mk 3 [78, 79, 84, 78, 85, 76, 76] .zero [e])) : SP).p z4 wR := hvp 4 (by omega)
                  obtain rfl : z5 = (.tuple #[valV Z.1, .int .i64 Z.2]) := hvp 5 (by omega)
                  obtain rfl : z6 = (.tuple #[valV Z.1, .int .i64 Z.2]) := hvp 6 (by omega)
                  obtain rfl : z7 = (valV Z.1) := hvp 7 (by omega)
                  obtain rfl : z8 = (.int .i64 Z.2) := hvp 8 (by omega)
                  have hfr : ((.fresh W10.heap.size 23 (valCs .zero)) : SP).p z9 wR := hvp 9 (by omega)
                  clear hvl hvp
                  simp only [putAll, Act.put, List.setIfInBounds_toArray, List.set_cons_succ, List.set_cons_zero, List.take_succ_cons, List.take_zero, List.drop_succ_cons, List.drop_zero, List.eraseIdx_cons_succ, List.eraseIdx_cons_zero]
                  obtain ⟨g, rfl, hg, hrg⟩ := hfr
                  have y0 : wR.cell? ⟨g, 0, none⟩ = some (.int .i64 0) := hrg.cell 0
                  have y1 : wR.cell? ⟨g, 1, none⟩ = some (.int .i64 0) := hrg.cell 1
                  have y2 : wR.cell? ⟨g, 2, none⟩ = some (.string (str [])) := hrg.cell 2
                  have x0 : wR.frozen? ⟨g, 0, none⟩ = false := hrg.frozen 0
                  have x1 : wR.frozen? ⟨g, 1, none⟩ = false := hrg.frozen 1
                  have x2 : wR.frozen? ⟨g, 2, none⟩ = false := hrg.frozen 2
                  have Hrg := Lib.hid hrg
                  have HsR := Lib.hid hsR
                  have zG := hrg.lt
                  clear hsR hrg 
                  go_wp2
                  go_meet
                  exact ⟨_, g, rfl, rfl, rfl, hg, Hrg.out.set3 _, HsR.out.set3 (fun h => by omega) _ _ _⟩
              · intro vs wR hvl hvp hsR
                rcases vs with _ | ⟨z0, _ | ⟨z1, _ | ⟨z2, _ | ⟨z3, _ | ⟨z4, _ | ⟨z5, _ | ⟨z6, _ | ⟨z7, _ | ⟨z9, _ | ⟨zz, zr⟩⟩⟩⟩⟩⟩⟩⟩⟩⟩
                rotate_right 1
                · simp at hvl
                · simp at hvl
                · simp at hvl
                · simp at hvl
                · simp at hvl
                · simp at hvl
                · simp at hvl
                · simp at hvl
                · simp at hvl
                · simp at hvl
                · have htb : (.tab : SP).p z0 wR := hvp 0 (by omega)
                  obtain rfl : z1 = (.slice Ar row.length cr) := hvp 1 (by omega)
                  obtain rfl : z2 = (exV (.slice A e.args.length c) e) := hvp 2 (by omega)
                  have hsl108 : ((.exl [e]) : SP).p z3 wR := hvp 3 (by omega)
                  have htr109 : ((.tree (.mk 3 [78, 79, 84, 78, 85, 76, 76] .zero [e])) : SP).p z4 wR := hvp 4 (by omega)
                  obtain rfl : z5 = (.tuple #[valV Z.1, .int .i64 Z.2]) := hvp 5 (by omega)
                  obtain rfl : z6 = (.tuple #[valV Z.1, .int .i64 Z.2]) := hvp 6 (by omega)
                  obtain rfl : z7 = (valV Z.1) := hvp 7 (by omega)
                  have hfr : ((.fresh W10.heap.size 23 (valCs .zero)) : SP).p z9 wR := hvp 8 (by omega)
                  clear hvl hvp
                  simp only [putAll, Act.put, List.setIfInBounds_toArray, List.set_cons_succ, List.set_cons_zero, List.take_succ_cons, List.take_zero, List.drop_succ_cons, List.drop_zero, List.eraseIdx_cons_succ, List.eraseIdx_cons_zero]
                  obtain ⟨g, rfl, hg, hrg⟩ := hfr
                  have y0 : wR.cell? ⟨g, 0, none⟩ = some (.int .i64 0) := hrg.cell 0
                  have y1 : wR.cell? ⟨g, 1, none⟩ = some (.int .i64 0) := hrg.cell 1
                  have y2 : wR.cell? ⟨g, 2, none⟩ = some (.string (str [])) := hrg.cell 2
                  have x0 : wR.frozen? ⟨g, 0, none⟩ = false := hrg.frozen 0
                  have x1 : wR.frozen? ⟨g, 1, none⟩ = false := hrg.frozen 1
                  have x2 : wR.frozen? ⟨g, 2, none⟩ = false := hrg.frozen 2
                  have Hrg := Lib.hid hrg
                  have HsR := Lib.hid hsR
                  have zG := hrg.lt
                  clear hsR hrg 
                  go_wp2
                  go_meet
                  exact ⟨_, g, rfl, rfl, rfl, hg, Hrg.out.set3 _, HsR.out.set3 (fun h => by omega) _ _ _⟩
            case rest =>
              obtain ⟨W11, g11, rfl, rfl, rfl, hg11, hr11, hS11⟩ := hcut
              have hre := Hre.out.keep hS11 trivial
              have hrn := Hrn.out.keep hS11 trivial
              have hr6 := Hr6.out.keep hS11 trivial
              have hr7 := Hr7.out.keep hS11 trivial
              have hr8 := Hr8.out.keep hS11 trivial
              have hr9 := Hr9.out.keep hS11 trivial
              have hr10 := Hr10.out.keep hS11 trivial
              have HS11 := Lib.hid (HS10.out.trans hS11)
              clear hS11 Hre Hrn k0 k1 k2 k3 k4 k5 n0 n1 n2 n3 n4 n5 zk zn Hr6 Hr7 Hr8 Hr9 Hr10 EvZ
              have Hr6 := Lib.hid hr6
              have Hr7 := Lib.hid hr7
              have Hr8 := Lib.hid hr8
              have Hr9 := Lib.hid hr9
              have Hr10 := Lib.hid hr10
              have Hr11 := Lib.hid hr11
              clear hr6 hr7 hr8 hr9 hr10 hr11
              clear hre hrn hx2
              obtain ⟨f1, f2, f3, f4, hnul, htell⟩ := HNs.out
              rw [f1, f2, f3, f4]
              clear f1 f2 f3 f4 HNs
              have gN := fun W => exTrue_any N.1 W
              have gY := fun W => exTrue_any Y.1 W
              have gZ := fun W => exTrue_any Z.1 W
              by_cases hV : V.2 = 0
              · obtain ⟨eV, eU, eN⟩ := hnul hV
                have qV : (V.2 == 0) = true := by simpa using hV
                rw [eV] at Hr6
                rw [eU] at Hr7
                rw [eN] at gN
                have a0 : W11.cell? ⟨g6, 0, none⟩ = some (.int .i64 0) := Hr6.out.cell 0
                have a1 : W11.cell? ⟨g6, 1, none⟩ = some (.int .i64 0) := Hr6.out.cell 1
                have a2 : W11.cell? ⟨g6, 2, none⟩ = some (.string (str [])) := Hr6.out.cell 2
                have b0 : W11.cell? ⟨g7, 0, none⟩ = some (.int .i64 0) := Hr7.out.cell 0
                have b1 : W11.cell? ⟨g7, 1, none⟩ = some (.int .i64 0) := Hr7.out.cell 1
                have b2 : W11.cell? ⟨g7, 2, none⟩ = some (.string (str [])) := Hr7.out.cell 2
                have za := Hr6.out.lt
                have zb := Hr7.out.lt
                have m0 : W11.cell? ⟨g8, 0, none⟩ = some (.int .i64 N.1.kind) := Hr8.out.cell 0
                have m1 : W11.cell? ⟨g8, 1, none⟩ = some (.int .i64 N.1.n) := Hr8.out.cell 1
                have m2 : W11.cell? ⟨g8, 2, none⟩ = some (.string (str N.1.s)) := Hr8.out.cell 2
                have zm := Hr8.out.lt
                clear hnul hV eV eU eN
                go_wp2_with (go_at_call 17; refine stopAt ?_)
                unfold Hid
                refine (gN _).mono ?_
                rintro e' W12 ⟨rfl, hS12⟩
                have HS12 := Lib.hid (HS11.out.trans hS12)
                have hr9 := Hr9.out.keep hS12 trivial
                have hr10 := Hr10.out.keep hS12 trivial
                have hr11 := Hr11.out.keep hS12 trivial
                clear Hr6 Hr7 Hr8 Hr9 Hr10 Hr11 a0 a1 a2 b0 b1 b2 m0 m1 m2 za zb zm hS12 gN
                have Hr9 := Lib.hid hr9
                have Hr10 := Lib.hid hr10
                have Hr11 := Lib.hid hr11
                clear hr9 hr10 hr11
                by_cases hX : X.2 = 0
                · obtain ⟨tY, tZ⟩ := htell hX
                  have qX : (X.2 != 0) = false := by simpa using hX
                  have qk : (X.1.kind == 0) = decide (X.1.kind = 0) := rfl
                  obtain ⟨K, hK⟩ : ∃ K, decide (X.1.kind = 0) = K := ⟨_, rfl⟩
                  rw [hK] at tY tZ qk
                  rw [tY] at gY
                  rw [tZ] at gZ
                  have y0 : W12.cell? ⟨g10, 0, none⟩ = some (.int .i64 Y.1.kind) := Hr10.out.cell 0
                  have y1 : W12.cell? ⟨g10, 1, none⟩ = some (.int .i64 Y.1.n) := Hr10.out.cell 1
                  have y2 : W12.cell? ⟨g10, 2, none⟩ = some (.string (str Y.1.s)) := Hr10.out.cell 2
                  have zy := Hr10.out.lt
                  have x0 : W12.cell? ⟨g9, 0, none⟩ = some (.int .i64 X.1.kind) := Hr9.out.cell 0
                  have x1 : W12.cell? ⟨g9, 1, none⟩ = some (.int .i64 X.1.n) := Hr9.out.cell 1
                  have x2 : W12.cell? ⟨g9, 2, none⟩ = some (.string (str X.1.s)) := Hr9.out.cell 2
                  have zx := Hr9.out.lt
                  have q0 : W12.cell? ⟨g11, 0, none⟩ = some (.int .i64 Z.1.kind) := Hr11.out.cell 0
                  have q1 : W12.cell? ⟨g11, 1, none⟩ = some (.int .i64 Z.1.n) := Hr11.out.cell 1
                  have q2 : W12.cell? ⟨g11, 2, none⟩ = some (.string (str Z.1.s)) := Hr11.out.cell 2
                  have zq := Hr11.out.lt
                  clear hX tY tZ hK htell
                  cases K
                  · go_wp2
                    refine wp_region_eq_lit (vs := [(.int .i64 X.2), (.bool false), (.bool false), (valV Y.1), (.bool false), (.pointer (some ⟨g9, 0, none⟩)), (.int .i64 X.1.kind), (.bool false), (.bool true), (.bool true), (valV Z.1), (.bool true), (valV Y.1), (.bool false), (.bool true), (.bool true), (.bool true), (.bool true)]) (by kernel_rfl) (by kernel_rfl) rfl rfl ?_ ?_
                    · refine ⟨?_, ?_, ?_, ?_, ?_, ?_, ?_, ?_, ?_, ?_, ?_, ?_, ?_, ?_, ?_, ?_, ?_, ?_, trivial⟩
                      · intro ac wc hs hd hz hf hw K hK
                        have e0 : ac.eval (.tmp 17) = (.int .i64 X.2) := hf 17 rfl
                        clear hd hz hf hw
                        simp only [Region.wanted, if_true, Oper.wp, execOp, resolve, List.map_toArray, List.map_cons, List.map_nil, Option.map_some, Option.map_none, e0]
                        go_simp
                        exact hK _ _ rfl (Same.refl _ _)
                      · intro ac wc hs hd hz hf hw K hK
                        have e0 : ac.eval (.tmp 148) = (.int .i64 X.2) := hw 0 rfl
                        clear hd hz hf hw
                        simp only [Region.wanted, if_true, Oper.wp, execOp, resolve, List.map_toArray, List.map_cons, List.map_nil, Option.map_some, Option.map_none, e0]
                        go_simp
                        exact hK _ _ rfl (Same.refl _ _)
                      · intro ac wc hs hd hz hf hw K hK
                        have e0 : ac.eval (.tmp 149) = (.bool false) := hw 1 rfl
                        clear hd hz hf hw
                        simp only [Region.wanted, if_true, Oper.wp, execOp, resolve, List.map_toArray, List.map_cons, List.map_nil, Option.map_some, Option.map_none, e0]
                        go_simp
                        exact hK _ _ rfl (Same.refl _ _)
                      · intro ac wc hs hd hz hf hw K hK
                        have eg : ac.eval (.tmp 150) = .bool false := hw 2 rfl
                        refine run_wanted (j := 2) (d := 150) (b := false) rfl rfl hz (of_decide_eq_true rfl) eg ?_
                        clear eg
                        have e0 : ac.eval (.tmp 18) = (.pointer (some ⟨g10, 0, none⟩)) := hf 18 rfl
                        have m0 : wc.cell? ⟨g10, 0, none⟩ = some (.int .i64 Y.1.kind) := hs.cell (p := ⟨g10, 0, none⟩) trivial y0
                        have m1 : wc.cell? ⟨g10, 1, none⟩ = some (.int .i64 Y.1.n) := hs.cell (p := ⟨g10, 1, none⟩) trivial y1
                        have m2 : wc.cell? ⟨g10, 2, none⟩ = some (.string (str Y.1.s)) := hs.cell (p := ⟨g10, 2, none⟩) trivial y2
                        clear hd hz hf hw
                        simp only [Oper.wp, execOp, resolve, List.map_toArray, List.map_cons, List.map_nil, Option.map_some, Option.map_none, e0]
                        go_simp
                        exact hK _ _ rfl (Same.refl _ _)
                      · intro ac wc hs hd hz hf hw K hK
                        have eg : ac.eval (.tmp 150) = .bool false := hw 2 rfl
                        refine run_wanted (j := 2) (d := 150) (b := false) rfl rfl hz (of_decide_eq_true rfl) eg ?_
                        clear eg
                        have e0 : ac.eval (.tmp 151) = (valV Y.1) := hw 3 rfl
                        clear hd hz hf hw
                        simp only [Oper.wp, execOp, resolve, List.map_toArray, List.map_cons, List.map_nil, Option.map_some, Option.map_none, e0]
                        go_simp
                        refine (gY _).mono ?_
                        rintro e wd ⟨rfl, hs2⟩
                        exact hK _ _ rfl hs2
                      · intro ac wc hs hd hz hf hw K hK
                        have eg : ac.eval (.tmp 150) = .bool false := hw 2 rfl
                        refine run_wanted (j := 2) (d := 150) (b := false) rfl rfl hz (of_decide_eq_true rfl) eg ?_
                        clear eg
                        have e0 : ac.eval (.tmp 16) = (.pointer (some ⟨g9, 0, none⟩)) := hf 16 rfl
                        clear hd hz hf hw
                        simp only [Oper.wp, execOp, resolve, List.map_toArray, List.map_cons, List.map_nil, Option.map_some, Option.map_none, e0]
                        go_simp
                        exact hK _ _ rfl (Same.refl _ _)
                      · intro ac wc hs hd hz hf hw K hK
                        have eg : ac.eval (.tmp 150) = .bool false := hw 2 rfl
                        refine run_wanted (j := 2) (d := 150) (b := false) rfl rfl hz (of_decide_eq_true rfl) eg ?_
                        clear eg
                        have e0 : ac.eval (.tmp 153) = (.pointer (some ⟨g9, 0, none⟩)) := hw 5 rfl
                        have m0 : wc.cell? ⟨g9, 0, none⟩ = some (.int .i64 X.1.kind) := hs.cell (p := ⟨g9, 0, none⟩) trivial x0
                        clear hd hz hf hw
                        simp only [Oper.wp, execOp, resolve, List.map_toArray, List.map_cons, List.map_nil, Option.map_some, Option.map_none, e0]
                        go_simp
                        exact hK _ _ rfl (Same.refl _ _)
                      · intro ac wc hs hd hz hf hw K hK
                        have eg : ac.eval (.tmp 150) = .bool false := hw 2 rfl
                        refine run_wanted (j := 2) (d := 150) (b := false) rfl rfl hz (of_decide_eq_true rfl) eg ?_
                        clear eg
                        have e0 : ac.eval (.tmp 154) = (.int .i64 X.1.kind) := hw 6 rfl
                        clear hd hz hf hw
                        simp only [Oper.wp, execOp, resolve, List.map_toArray, List.map_cons, List.map_nil, Option.map_some, Option.map_none, e0]
                        go_simp
                        exact hK _ _ rfl (Same.refl _ _)
                      · intro ac wc hs hd hz hf hw K hK
                        have eg : ac.eval (.tmp 150) = .bool false := hw 2 rfl
                        refine run_wanted (j := 2) (d := 150) (b := false) rfl rfl hz (of_decide_eq_true rfl) eg ?_
                        clear eg
                        have e0 : ac.eval (.tmp 152) = (.bool false) := hw 4 rfl
                        have e1 : ac.eval (.tmp 155) = (.bool false) := hw 7 rfl
                        clear hd hz hf hw
                        simp only [Oper.wp, execOp, resolve, List.map_toArray, List.map_cons, List.map_nil, Option.map_some, Option.map_none, e0, e1]
                        go_simp
                        exact hK _ _ rfl (Same.refl _ _)
                      · intro ac wc hs hd hz hf hw K hK
                        have eg : ac.eval (.tmp 150) = .bool false := hw 2 rfl
                        refine run_wanted (j := 2) (d := 150) (b := false) rfl rfl hz (of_decide_eq_true rfl) eg ?_
                        clear eg
                        have e0 : ac.eval (.tmp 156) = (.bool true) := hw 8 rfl
                        clear hd hz hf hw
                        simp only [Oper.wp, execOp, resolve, List.map_toArray, List.map_cons, List.map_nil, Option.map_some, Option.map_none, e0]
                        go_simp
                        exact hK _ _ rfl (Same.refl _ _)
                      · intro ac wc hs hd hz hf hw K hK
                        have eg : ac.eval (.tmp 157) = .bool true := hw 9 rfl
                        refine run_wanted (j := 9) (d := 157) (b := true) rfl rfl hz (of_decide_eq_true rfl) eg ?_
                        clear eg
                        have e0 : ac.eval (.tmp 20) = (.pointer (some ⟨g11, 0, none⟩)) := hf 20 rfl
                        have m0 : wc.cell? ⟨g11, 0, none⟩ = some (.int .i64 Z.1.kind) := hs.cell (p := ⟨g11, 0, none⟩) trivial q0
                        have m1 : wc.cell? ⟨g11, 1, none⟩ = some (.int .i64 Z.1.n) := hs.cell (p := ⟨g11, 1, none⟩) trivial q1
                        have m2 : wc.cell? ⟨g11, 2, none⟩ = some (.string (str Z.1.s)) := hs.cell (p := ⟨g11, 2, none⟩) trivial q2
                        clear hd hz hf hw
                        simp only [Oper.wp, execOp, resolve, List.map_toArray, List.map_cons, List.map_nil, Option.map_some, Option.map_none, e0]
                        go_simp
                        exact hK _ _ rfl (Same.refl _ _)
                      · intro ac wc hs hd hz hf hw K hK
                        have eg : ac.eval (.tmp 157) = .bool true := hw 9 rfl
                        refine run_wanted (j := 9) (d := 157) (b := true) rfl rfl hz (of_decide_eq_true rfl) eg ?_
                        clear eg
                        have e0 : ac.eval (.tmp 158) = (valV Z.1) := hw 10 rfl
                        clear hd hz hf hw
                        simp only [Oper.wp, execOp, resolve, List.map_toArray, List.map_cons, List.map_nil, Option.map_some, Option.map_none, e0]
                        go_simp
                        refine (gZ _).mono ?_
                        rintro e wd ⟨rfl, hs2⟩
                        exact hK _ _ rfl hs2
                      · intro ac wc hs hd hz hf hw K hK
                        have eg : ac.eval (.tmp 157) = .bool true := hw 9 rfl
                        refine run_wanted (j := 9) (d := 157) (b := true) rfl rfl hz (of_decide_eq_true rfl) eg ?_
                        clear eg
                        have e0 : ac.eval (.tmp 18) = (.pointer (some ⟨g10, 0, none⟩)) := hf 18 rfl
                        have m0 : wc.cell? ⟨g10, 0, none⟩ = some (.int .i64 Y.1.kind) := hs.cell (p := ⟨g10, 0, none⟩) trivial y0
                        have m1 : wc.cell? ⟨g10, 1, none⟩ = some (.int .i64 Y.1.n) := hs.cell (p := ⟨g10, 1, none⟩) trivial y1
                        have m2 : wc.cell? ⟨g10, 2, none⟩ = some (.string (str Y.1.s)) := hs.cell (p := ⟨g10, 2, none⟩) trivial y2
                        clear hd hz hf hw
                        simp only [Oper.wp, execOp, resolve, List.map_toArray, List.map_cons, List.map_nil, Option.map_some, Option.map_none, e0]
                        go_simp
                        exact hK _ _ rfl (Same.refl _ _)
                      · intro ac wc hs hd hz hf hw K hK
                        have eg : ac.eval (.tmp 157) = .bool true := hw 9 rfl
                        refine run_wanted (j := 9) (d := 157) (b := true) rfl rfl hz (of_decide_eq_true rfl) eg ?_
                        clear eg
                        have e0 : ac.eval (.tmp 160) = (valV Y.1) := hw 12 rfl
                        clear hd hz hf hw
                        simp only [Oper.wp, execOp, resolve, List.map_toArray, List.map_cons, List.map_nil, Option.map_some, Option.map_none, e0]
                        go_simp
                        refine (gY _).mono ?_
                        rintro e wd ⟨rfl, hs2⟩
                        exact hK _ _ rfl hs2
                      · intro ac wc hs hd hz hf hw K hK
                        have eg : ac.eval (.tmp 157) = .bool true := hw 9 rfl
                        refine run_wanted (j := 9) (d := 157) (b := true) rfl rfl hz (of_decide_eq_true rfl) eg ?_
                        clear eg
                        have e0 : ac.eval (.tmp 159) = (.bool true) := hw 11 rfl
                        have e1 : ac.eval (.tmp 161) = (.bool false) := hw 13 rfl
                        clear hd hz hf hw
                        simp only [Oper.wp, execOp, resolve, List.map_toArray, List.map_cons, List.map_nil, Option.map_some, Option.map_none, e0, e1]
                        go_simp
                        exact hK _ _ rfl (Same.refl _ _)
                      · intro ac wc hs hd hz hf hw K hK
                        have eg : ac.eval (.tmp 150) = .bool false := hw 2 rfl
                        refine run_wanted (j := 2) (d := 150) (b := false) rfl rfl hz (of_decide_eq_true rfl) eg ?_
                        clear eg
                        have e0 : ac.eval (.tmp 157) = (.bool true) := hw 9 rfl
                        have e1 : ac.eval (.tmp 162) = (.bool true) := hw 14 rfl
                        clear hd hz hf hw
                        simp only [Oper.wp, execOp, resolve, List.map_toArray, List.map_cons, List.map_nil, Option.map_some, Option.map_none, e0, e1]
                        go_simp
                        exact hK _ _ rfl (Same.refl _ _)
                      · intro ac wc hs hd hz hf hw K hK
                        have e0 : ac.eval (.tmp 150) = (.bool false) := hw 2 rfl
                        have e1 : ac.eval (.tmp 163) = (.bool true) := hw 15 rfl
                        clear hd hz hf hw
                        simp only [Region.wanted, if_true, Oper.wp, execOp, resolve, List.map_toArray, List.map_cons, List.map_nil, Option.map_some, Option.map_none, e0, e1]
                        go_simp
                        exact hK _ _ rfl (Same.refl _ _)
                      · intro ac wc hs hd hz hf hw K hK
                        have e0 : ac.eval (.tmp 164) = (.bool true) := hw 16 rfl
                        clear hd hz hf hw
                        simp only [Region.wanted, if_true, Oper.wp, execOp, resolve, List.map_toArray, List.map_cons, List.map_nil, Option.map_some, Option.map_none, e0]
                        go_simp
                        exact hK _ _ rfl (Same.refl _ _)
                    · intro wR hsR
                      simp only [putAll, Act.put, List.setIfInBounds_toArray, List.set_cons_succ, List.set_cons_zero]
                      go_wp2
                      go_ret
                      exact ⟨rfl, HS12.out.trans hsR⟩
                  · go_wp2
                    refine wp_region_eq_lit (vs := [(.int .i64 X.2), (.bool false), (.bool false), (valV Y.1), (.bool true), (.pointer (some ⟨g9, 0, none⟩)), (.int .i64 X.1.kind), (.bool true), (.bool true), (.bool true), (valV Z.1), (.bool false), (valV Y.1), (.bool true), (.bool true), (.bool true), (.bool true), (.bool true)]) (by kernel_rfl) (by kernel_rfl) rfl rfl ?_ ?_
                    · refine ⟨?_, ?_, ?_, ?_, ?_, ?_, ?_, ?_, ?_, ?_, ?_, ?_, ?_, ?_, ?_, ?_, ?_, ?_, trivial⟩
                      · intro ac wc hs hd hz hf hw K hK
                        have e0 : ac.eval (.tmp 17) = (.int .i64 X.2) := hf 17 rfl
                        clear hd hz hf hw
                        simp only [Region.wanted, if_true, Oper.wp, execOp, resolve, List.map_toArray, List.map_cons, List.map_nil, Option.map_some, Option.map_none, e0]
                        go_simp
                        exact hK _ _ rfl (Same.refl _ _)
                      · intro ac wc hs hd hz hf hw K hK
                        have e0 : ac.eval (.tmp 148) = (.int .i64 X.2) := hw 0 rfl
                        clear hd hz hf hw
                        simp only [Region.wanted, if_true, Oper.wp, execOp, resolve, List.map_toArray, List.map_cons, List.map_nil, Option.map_some, Option.map_none, e0]
                        go_simp
                        exact hK _ _ rfl (Same.refl _ _)
                      · intro ac wc hs hd hz hf hw K hK
                        have e0 : ac.eval (.tmp 149) = (.bool false) := hw 1 rfl
                        clear hd hz hf hw
                        simp only [Region.wanted, if_true, Oper.wp, execOp, resolve, List.map_toArray, List.map_cons, List.map_nil, Option.map_some, Option.map_none, e0]
                        go_simp
                        exact hK _ _ rfl (Same.refl _ _)
                      · intro ac wc hs hd hz hf hw K hK
                        have eg : ac.eval (.tmp 150) = .bool false := hw 2 rfl
                        refine run_wanted (j := 2) (d := 150) (b := false) rfl rfl hz (of_decide_eq_true rfl) eg ?_
                        clear eg
                        have e0 : ac.eval (.tmp 18) = (.pointer (some ⟨g10, 0, none⟩)) := hf 18 rfl
                        have m0 : wc.cell? ⟨g10, 0, none⟩ = some (.int .i64 Y.1.kind) := hs.cell (p := ⟨g10, 0, none⟩) trivial y0
                        have m1 : wc.cell? ⟨g10, 1, none⟩ = some (.int .i64 Y.1.n) := hs.cell (p := ⟨g10, 1, none⟩) trivial y1
                        have m2 : wc.cell? ⟨g10, 2, none⟩ = some (.string (str Y.1.s)) := hs.cell (p := ⟨g10, 2, none⟩) trivial y2
                        clear hd hz hf hw
                        simp only [Oper.wp, execOp, resolve, List.map_toArray, List.map_cons, List.map_nil, Option.map_some, Option.map_none, e0]
                        go_simp
                        exact hK _ _ rfl (Same.refl _ _)
                      · intro ac wc hs hd hz hf hw K hK
                        have eg : ac.eval (.tmp 150) = .bool false := hw 2 rfl
                        refine run_wanted (j := 2) (d := 150) (b := false) rfl rfl hz (of_decide_eq_true rfl) eg ?_
                        clear eg
                        have e0 : ac.eval (.tmp 151) = (valV Y.1) := hw 3 rfl
                        clear hd hz hf hw
                        simp only [Oper.wp, execOp, resolve, List.map_toArray, List.map_cons, List.map_nil, Option.map_some, Option.map_none, e0]
                        go_simp
                        refine (gY _).mono ?_
                        rintro e wd ⟨rfl, hs2⟩
                        exact hK _ _ rfl hs2
                      · intro ac wc hs hd hz hf hw K hK
                        have eg : ac.eval (.tmp 150) = .bool false := hw 2 rfl
                        refine run_wanted (j := 2) (d := 150) (b := false) rfl rfl hz (of_decide_eq_true rfl) eg ?_
                        clear eg
                        have e0 : ac.eval (.tmp 16) = (.pointer (some ⟨g9, 0, none⟩)) := hf 16 rfl
                        clear hd hz hf hw
                        simp only [Oper.wp, execOp, resolve, List.map_toArray, List.map_cons, List.map_nil, Option.map_some, Option.map_none, e0]
                        go_simp
                        exact hK _ _ rfl (Same.refl _ _)
                      · intro ac wc hs hd hz hf hw K hK
                        have eg : ac.eval (.tmp 150) = .bool false := hw 2 rfl
                        refine run_wanted (j := 2) (d := 150) (b := false) rfl rfl hz (of_decide_eq_true rfl) eg ?_
                        clear eg
                        have e0 : ac.eval (.tmp 153) = (.pointer (some ⟨g9, 0, none⟩)) := hw 5 rfl
                        have m0 : wc.cell? ⟨g9, 0, none⟩ = some (.int .i64 X.1.kind) := hs.cell (p := ⟨g9, 0, none⟩) trivial x0
                        clear hd hz hf hw
                        simp only [Oper.wp, execOp, resolve, List.map_toArray, List.map_cons, List.map_nil, Option.map_some, Option.map_none, e0]
                        go_simp
                        exact hK _ _ rfl (Same.refl _ _)
                      · intro ac wc hs hd hz hf hw K hK
                        have eg : ac.eval (.tmp 150) = .bool false := hw 2 rfl
                        refine run_wanted (j := 2) (d := 150) (b := false) rfl rfl hz (of_decide_eq_true rfl) eg ?_
                        clear eg
                        have e0 : ac.eval (.tmp 154) = (.int .i64 X.1.kind) := hw 6 rfl
                        clear hd hz hf hw
                        simp only [Oper.wp, execOp, resolve, List.map_toArray, List.map_cons, List.map_nil, Option.map_some, Option.map_none, e0]
                        go_simp
                        exact hK _ _ rfl (Same.refl _ _)
                      · intro ac wc hs hd hz hf hw K hK
                        have eg : ac.eval (.tmp 150) = .bool false := hw 2 rfl
                        refine run_wanted (j := 2) (d := 150) (b := false) rfl rfl hz (of_decide_eq_true rfl) eg ?_
                        clear eg
                        have e0 : ac.eval (.tmp 152) = (.bool true) := hw 4 rfl
                        have e1 : ac.eval (.tmp 155) = (.bool true) := hw 7 rfl
                        clear hd hz hf hw
                        simp only [Oper.wp, execOp, resolve, List.map_toArray, List.map_cons, List.map_nil, Option.map_some, Option.map_none, e0, e1]
                        go_simp
                        exact hK _ _ rfl (Same.refl _ _)
                      · intro ac wc hs hd hz hf hw K hK
                        have eg : ac.eval (.tmp 150) = .bool false := hw 2 rfl
                        refine run_wanted (j := 2) (d := 150) (b := false) rfl rfl hz (of_decide_eq_true rfl) eg ?_
                        clear eg
                        have e0 : ac.eval (.tmp 156) = (.bool true) := hw 8 rfl
                        clear hd hz hf hw
                        simp only [Oper.wp, execOp, resolve, List.map_toArray, List.map_cons, List.map_nil, Option.map_some, Option.map_none, e0]
                        go_simp
                        exact hK _ _ rfl (Same.refl _ _)
                      · intro ac wc hs hd hz hf hw K hK
                        have eg : ac.eval (.tmp 157) = .bool true := hw 9 rfl
                        refine run_wanted (j := 9) (d := 157) (b := true) rfl rfl hz (of_decide_eq_true rfl) eg ?_
                        clear eg
                        have e0 : ac.eval (.tmp 20) = (.pointer (some ⟨g11, 0, none⟩)) := hf 20 rfl
                        have m0 : wc.cell? ⟨g11, 0, none⟩ = some (.int .i64 Z.1.kind) := hs.cell (p := ⟨g11, 0, none⟩) trivial q0
                        have m1 : wc.cell? ⟨g11, 1, none⟩ = some (.int .i64 Z.1.n) := hs.cell (p := ⟨g11, 1, none⟩) trivial q1
                        have m2 : wc.cell? ⟨g11, 2, none⟩ = some (.string (str Z.1.s)) := hs.cell (p := ⟨g11, 2, none⟩) trivial q2
                        clear hd hz hf hw
                        simp only [Oper.wp, execOp, resolve, List.map_toArray, List.map_cons, List.map_nil, Option.map_some, Option.map_none, e0]
                        go_simp
                        exact hK _ _ rfl (Same.refl _ _)
                      · intro ac wc hs hd hz hf hw K hK
                        have eg : ac.eval (.tmp 157) = .bool true := hw 9 rfl
                        refine run_wanted (j := 9) (d := 157) (b := true) rfl rfl hz (of_decide_eq_true rfl) eg ?_
                        clear eg
                        have e0 : ac.eval (.tmp 158) = (valV Z.1) := hw 10 rfl
                        clear hd hz hf hw
                        simp only [Oper.wp, execOp, resolve, List.map_toArray, List.map_cons, List.map_nil, Option.map_some, Option.map_none, e0]
                        go_simp
                        refine (gZ _).mono ?_
                        rintro e wd ⟨rfl, hs2⟩
                        exact hK _ _ rfl hs2
                      · intro ac wc hs hd hz hf hw K hK
                        have eg : ac.eval (.tmp 157) = .bool true := hw 9 rfl
                        refine run_wanted (j := 9) (d := 157) (b := true) rfl rfl hz (of_decide_eq_true rfl) eg ?_
                        clear eg
                        have e0 : ac.eval (.tmp 18) = (.pointer (some ⟨g10, 0, none⟩)) := hf 18 rfl
                        have m0 : wc.cell? ⟨g10, 0, none⟩ = some (.int .i64 Y.1.kind) := hs.cell (p := ⟨g10, 0, none⟩) trivial y0
                        have m1 : wc.cell? ⟨g10, 1, none⟩ = some (.int .i64 Y.1.n) := hs.cell (p := ⟨g10, 1, none⟩) trivial y1
                        have m2 : wc.cell? ⟨g10, 2, none⟩ = some (.string (str Y.1.s)) := hs.cell (p := ⟨g10, 2, none⟩) trivial y2
                        clear hd hz hf hw
                        simp only [Oper.wp, execOp, resolve, List.map_toArray, List.map_cons, List.map_nil, Option.map_some, Option.map_none, e0]
                        go_simp
                        exact hK _ _ rfl (Same.refl _ _)
                      · intro ac wc hs hd hz hf hw K hK
                        have eg : ac.eval (.tmp 157) = .bool true := hw 9 rfl
                        refine run_wanted (j := 9) (d := 157) (b := true) rfl rfl hz (of_decide_eq_true rfl) eg ?_
                        clear eg
                        have e0 : ac.eval (.tmp 160) = (valV Y.1) := hw 12 rfl
                        clear hd hz hf hw
                        simp only [Oper.wp, execOp, resolve, List.map_toArray, List.map_cons, List.map_nil, Option.map_some, Option.map_none, e0]
                        go_simp
                        refine (gY _).mono ?_
                        rintro e wd ⟨rfl, hs2⟩
                        exact hK _ _ rfl hs2
                      · intro ac wc hs hd hz hf hw K hK
                        have eg : ac.eval (.tmp 157) = .bool true := hw 9 rfl
                        refine run_wanted (j := 9) (d := 157) (b := true) rfl rfl hz (of_decide_eq_true rfl) eg ?_
                        clear eg
                        have e0 : ac.eval (.tmp 159) = (.bool false) := hw 11 rfl
                        have e1 : ac.eval (.tmp 161) = (.bool true) := hw 13 rfl
                        clear hd hz hf hw
                        simp only [Oper.wp, execOp, resolve, List.map_toArray, List.map_cons, List.map_nil, Option.map_some, Option.map_none, e0, e1]
                        go_simp
                        exact hK _ _ rfl (Same.refl _ _)
                      · intro ac wc hs hd hz hf hw K hK
                        have eg : ac.eval (.tmp 150) = .bool false := hw 2 rfl
                        refine run_wanted (j := 2) (d := 150) (b := false) rfl rfl hz (of_decide_eq_true rfl) eg ?_
                        clear eg
                        have e0 : ac.eval (.tmp 157) = (.bool true) := hw 9 rfl
                        have e1 : ac.eval (.tmp 162) = (.bool true) := hw 14 rfl
                        clear hd hz hf hw
                        simp only [Oper.wp, execOp, resolve, List.map_toArray, List.map_cons, List.map_nil, Option.map_some, Option.map_none, e0, e1]
                        go_simp
                        exact hK _ _ rfl (Same.refl _ _)
                      · intro ac wc hs hd hz hf hw K hK
                        have e0 : ac.eval (.tmp 150) = (.bool false) := hw 2 rfl
                        have e1 : ac.eval (.tmp 163) = (.bool true) := hw 15 rfl
                        clear hd hz hf hw
                        simp only [Region.wanted, if_true, Oper.wp, execOp, resolve, List.map_toArray, List.map_cons, List.map_nil, Option.map_some, Option.map_none, e0, e1]
                        go_simp
                        exact hK _ _ rfl (Same.refl _ _)
                      · intro ac wc hs hd hz hf hw K hK
                        have e0 : ac.eval (.tmp 164) = (.bool true) := hw 16 rfl
                        clear hd hz hf hw
                        simp only [Region.wanted, if_true, Oper.wp, execOp, resolve, List.map_toArray, List.map_cons, List.map_nil, Option.map_some, Option.map_none, e0]
                        go_simp
                        exact hK _ _ rfl (Same.refl _ _)
                    · intro wR hsR
                      simp only [putAll, Act.put, List.setIfInBounds_toArray, List.set_cons_succ, List.set_cons_zero]
                      go_wp2
                      go_ret
                      exact ⟨rfl, HS12.out.trans hsR⟩
                · have qX : (X.2 != 0) = true := by simpa using hX
                  clear hX htell
                  go_wp2
                  refine wp_region_eq_lit (vs := [(.int .i64 X.2), (.bool true), (.bool true), undef, undef, undef, undef, undef, undef, undef, undef, undef, undef, undef, undef, undef, (.bool true), (.bool true)]) (by kernel_rfl) (by kernel_rfl) rfl rfl ?_ ?_
                  · refine ⟨?_, ?_, ?_, ?_, ?_, ?_, ?_, ?_, ?_, ?_, ?_, ?_, ?_, ?_, ?_, ?_, ?_, ?_, trivial⟩
                    · intro ac wc hs hd hz hf hw K hK
                      have e0 : ac.eval (.tmp 17) = (.int .i64 X.2) := hf 17 rfl
                      clear hd hz hf hw
                      simp only [Region.wanted, if_true, Oper.wp, execOp, resolve, List.map_toArray, List.map_cons, List.map_nil, Option.map_some, Option.map_none, e0]
                      go_simp
                      exact hK _ _ rfl (Same.refl _ _)
                    · intro ac wc hs hd hz hf hw K hK
                      have e0 : ac.eval (.tmp 148) = (.int .i64 X.2) := hw 0 rfl
                      clear hd hz hf hw
                      simp only [Region.wanted, if_true, Oper.wp, execOp, resolve, List.map_toArray, List.map_cons, List.map_nil, Option.map_some, Option.map_none, e0]
                      go_simp
                      exact hK _ _ rfl (Same.refl _ _)
                    · intro ac wc hs hd hz hf hw K hK
                      have e0 : ac.eval (.tmp 149) = (.bool true) := hw 1 rfl
                      clear hd hz hf hw
                      simp only [Region.wanted, if_true, Oper.wp, execOp, resolve, List.map_toArray, List.map_cons, List.map_nil, Option.map_some, Option.map_none, e0]
                      go_simp
                      exact hK _ _ rfl (Same.refl _ _)
                    · intro ac wc hs hd hz hf hw K hK
                      have eg : ac.eval (.tmp 150) = .bool true := hw 2 rfl
                      refine skip_wanted (j := 2) (d := 150) (b := true) rfl rfl hz (of_decide_eq_true rfl) eg ?_
                      clear eg
                      exact hK _ _ rfl (Same.refl _ _)
                    · intro ac wc hs hd hz hf hw K hK
                      have eg : ac.eval (.tmp 150) = .bool true := hw 2 rfl
                      refine skip_wanted (j := 2) (d := 150) (b := true) rfl rfl hz (of_decide_eq_true rfl) eg ?_
                      clear eg
                      exact hK _ _ rfl (Same.refl _ _)
                    · intro ac wc hs hd hz hf hw K hK
                      have eg : ac.eval (.tmp 150) = .bool true := hw 2 rfl
                      refine skip_wanted (j := 2) (d := 150) (b := true) rfl rfl hz (of_decide_eq_true rfl) eg ?_
                      clear eg
                      exact hK _ _ rfl (Same.refl _ _)
                    · intro ac wc hs hd hz hf hw K hK
                      have eg : ac.eval (.tmp 150) = .bool true := hw 2 rfl
                      refine skip_wanted (j := 2) (d := 150) (b := true) rfl rfl hz (of_decide_eq_true rfl) eg ?_
                      clear eg
                      exact hK _ _ rfl (Same.refl _ _)
                    · intro ac wc hs hd hz hf hw K hK
                      have eg : ac.eval (.tmp 150) = .bool true := hw 2 rfl
                      refine skip_wanted (j := 2) (d := 150) (b := true) rfl rfl hz (of_decide_eq_true rfl) eg ?_
                      clear eg
                      exact hK _ _ rfl (Same.refl _ _)
                    · intro ac wc hs hd hz hf hw K hK
                      have eg : ac.eval (.tmp 150) = .bool true := hw 2 rfl
                      refine skip_wanted (j := 2) (d := 150) (b := true) rfl rfl hz (of_decide_eq_true rfl) eg ?_
                      clear eg
                      exact hK _ _ rfl (Same.refl _ _)
                    · intro ac wc hs hd hz hf hw K hK
                      have eg : ac.eval (.tmp 150) = .bool true := hw 2 rfl
                      refine skip_wanted (j := 2) (d := 150) (b := true) rfl rfl hz (of_decide_eq_true rfl) eg ?_
                      clear eg
                      exact hK _ _ rfl (Same.refl _ _)
                    · intro ac wc hs hd hz hf hw K hK
                      have eg : ac.eval (.tmp 157) = undef := hw 9 rfl
                      refine skip_undef (j := 9) (d := 157) rfl rfl hz (of_decide_eq_true rfl) eg ?_
                      exact hK _ _ rfl (Same.refl _ _)
                    · intro ac wc hs hd hz hf hw K hK
                      have eg : ac.eval (.tmp 157) = undef := hw 9 rfl
                      refine skip_undef (j := 9) (d := 157) rfl rfl hz (of_decide_eq_true rfl) eg ?_
                      exact hK _ _ rfl (Same.refl _ _)
                    · intro ac wc hs hd hz hf hw K hK
                      have eg : ac.eval (.tmp 157) = undef := hw 9 rfl
                      refine skip_undef (j := 9) (d := 157) rfl rfl hz (of_decide_eq_true rfl) eg ?_
                      exact hK _ _ rfl (Same.refl _ _)
                    · intro ac wc hs hd hz hf hw K hK
                      have eg : ac.eval (.tmp 157) = undef := hw 9 rfl
                      refine skip_undef (j := 9) (d := 157) rfl rfl hz (of_decide_eq_true rfl) eg ?_
                      exact hK _ _ rfl (Same.refl _ _)
                    · intro ac wc hs hd hz hf hw K hK
                      have eg : ac.eval (.tmp 157) = undef := hw 9 rfl
                      refine skip_undef (j := 9) (d := 157) rfl rfl hz (of_decide_eq_true rfl) eg ?_
                      exact hK _ _ rfl (Same.refl _ _)
                    · intro ac wc hs hd hz hf hw K hK
                      have eg : ac.eval (.tmp 150) = .bool true := hw 2 rfl
                      refine skip_wanted (j := 2) (d := 150) (b := true) rfl rfl hz (of_decide_eq_true rfl) eg ?_
                      clear eg
                      exact hK _ _ rfl (Same.refl _ _)
                    · intro ac wc hs hd hz hf hw K hK
                      have e0 : ac.eval (.tmp 150) = (.bool true) := hw 2 rfl
                      have e1 : ac.eval (.tmp 163) = undef := hw 15 rfl
                      clear hd hz hf hw
                      simp only [Region.wanted, if_true, Oper.wp, execOp, resolve, List.map_toArray, List.map_cons, List.map_nil, Option.map_some, Option.map_none, e0, e1]
                      go_simp
                      exact hK _ _ rfl (Same.refl _ _)
                    · intro ac wc hs hd hz hf hw K hK
                      have e0 : ac.eval (.tmp 164) = (.bool true) := hw 16 rfl
                      clear hd hz hf hw
                      simp only [Region.wanted, if_true, Oper.wp, execOp, resolve, List.map_toArray, List.map_cons, List.map_nil, Option.map_some, Option.map_none, e0]
                      go_simp
                      exact hK _ _ rfl (Same.refl _ _)
                  · intro wR hsR
                    simp only [putAll, Act.put, List.setIfInBounds_toArray, List.set_cons_succ, List.set_cons_zero]
                    go_wp2
                    go_ret
                    exact ⟨rfl, HS12.out.trans hsR⟩
              · have qV : (V.2 == 0) = false := by simpa using hV
                clear hnul hV gN
                by_cases hX : X.2 = 0
                · obtain ⟨tY, tZ⟩ := htell hX
                  have qX : (X.2 != 0) = false := by simpa using hX
                  have qk : (X.1.kind == 0) = decide (X.1.kind = 0) := rfl
                  obtain ⟨K, hK⟩ : ∃ K, decide (X.1.kind = 0) = K := ⟨_, rfl⟩
                  rw [hK] at tY tZ qk
                  rw [tY] at gY
                  rw [tZ] at gZ
                  have y0 : W11.cell? ⟨g10, 0, none⟩ = some (.int .i64 Y.1.kind) := Hr10.out.cell 0
                  have y1 : W11.cell? ⟨g10, 1, none⟩ = some (.int .i64 Y.1.n) := Hr10.out.cell 1
                  have y2 : W11.cell? ⟨g10, 2, none⟩ = some (.string (str Y.1.s)) := Hr10.out.cell 2
                  have zy := Hr10.out.lt
                  have x0 : W11.cell? ⟨g9, 0, none⟩ = some (.int .i64 X.1.kind) := Hr9.out.cell 0
                  have x1 : W11.cell? ⟨g9, 1, none⟩ = some (.int .i64 X.1.n) := Hr9.out.cell 1
                  have x2 : W11.cell? ⟨g9, 2, none⟩ = some (.string (str X.1.s)) := Hr9.out.cell 2
                  have zx := Hr9.out.lt
                  have q0 : W11.cell? ⟨g11, 0, none⟩ = some (.int .i64 Z.1.kind) := Hr11.out.cell 0
                  have q1 : W11.cell? ⟨g11, 1, none⟩ = some (.int .i64 Z.1.n) := Hr11.out.cell 1
                  have q2 : W11.cell? ⟨g11, 2, none⟩ = some (.string (str Z.1.s)) := Hr11.out.cell 2
                  have zq := Hr11.out.lt
                  clear hX tY tZ hK htell
                  cases K
                  · go_wp2
                    refine wp_region_eq_lit (vs := [(.int .i64 X.2), (.bool false), (.bool false), (valV Y.1), (.bool false), (.pointer (some ⟨g9, 0, none⟩)), (.int .i64 X.1.kind), (.bool false), (.bool true), (.bool true), (valV Z.1), (.bool true), (valV Y.1), (.bool false), (.bool true), (.bool true), (.bool true), (.bool true)]) (by kernel_rfl) (by kernel_rfl) rfl rfl ?_ ?_
                    · refine ⟨?_, ?_, ?_, ?_, ?_, ?_, ?_, ?_, ?_, ?_, ?_, ?_, ?_, ?_, ?_, ?_, ?_, ?_, trivial⟩
                      · intro ac wc hs hd hz hf hw K hK
                        have e0 : ac.eval (.tmp 17) = (.int .i64 X.2) := hf 17 rfl
                        clear hd hz hf hw
                        simp only [Region.wanted, if_true, Oper.wp, execOp, resolve, List.map_toArray, List.map_cons, List.map_nil, Option.map_some, Option.map_none, e0]
                        go_simp
                        exact hK _ _ rfl (Same.refl _ _)
                      · intro ac wc hs hd hz hf hw K hK
                        have e0 : ac.eval (.tmp 148) = (.int .i64 X.2) := hw 0 rfl
                        clear hd hz hf hw
                        simp only [Region.wanted, if_true, Oper.wp, execOp, resolve, List.map_toArray, List.map_cons, List.map_nil, Option.map_some, Option.map_none, e0]
                        go_simp
                        exact hK _ _ rfl (Same.refl _ _)
                      · intro ac wc hs hd hz hf hw K hK
                        have e0 : ac.eval (.tmp 149) = (.bool false) := hw 1 rfl
                        clear hd hz hf hw
                        simp only [Region.wanted, if_true, Oper.wp, execOp, resolve, List.map_toArray, List.map_cons, List.map_nil, Option.map_some, Option.map_none, e0]
                        go_simp
                        exact hK _ _ rfl (Same.refl _ _)
                      · intro ac wc hs hd hz hf hw K hK
                        have eg : ac.eval (.tmp 150) = .bool false := hw 2 rfl
                        refine run_wanted (j := 2) (d := 150) (b := false) rfl rfl hz (of_decide_eq_true rfl) eg ?_
                        clear eg
                        have e0 : ac.eval (.tmp 18) = (.pointer (some ⟨g10, 0, none⟩)) := hf 18 rfl
                        have m0 : wc.cell? ⟨g10, 0, none⟩ = some (.int .i64 Y.1.kind) := hs.cell (p := ⟨g10, 0, none⟩) trivial y0
                        have m1 : wc.cell? ⟨g10, 1, none⟩ = some (.int .i64 Y.1.n) := hs.cell (p := ⟨g10, 1, none⟩) trivial y1
                        have m2 : wc.cell? ⟨g10, 2, none⟩ = some (.string (str Y.1.s)) := hs.cell (p := ⟨g10, 2, none⟩) trivial y2
                        clear hd hz hf hw
                        simp only [Oper.wp, execOp, resolve, List.map_toArray, List.map_cons, List.map_nil, Option.map_some, Option.map_none, e0]
                        go_simp
                        exact hK _ _ rfl (Same.refl _ _)
                      · intro ac wc hs hd hz hf hw K hK
                        have eg : ac.eval (.tmp 150) = .bool false := hw 2 rfl
                        refine run_wanted (j := 2) (d := 150) (b := false) rfl rfl hz (of_decide_eq_true rfl) eg ?_
                        clear eg
                        have e0 : ac.eval (.tmp 151) = (valV Y.1) := hw 3 rfl
                        clear hd hz hf hw
                        simp only [Oper.wp, execOp, resolve, List.map_toArray, List.map_cons, List.map_nil, Option.map_some, Option.map_none, e0]
                        go_simp
                        refine (gY _).mono ?_
                        rintro e wd ⟨rfl, hs2⟩
                        exact hK _ _ rfl hs2
                      · intro ac wc hs hd hz hf hw K hK
                        have eg : ac.eval (.tmp 150) = .bool false := hw 2 rfl
                        refine run_wanted (j := 2) (d := 150) (b := false) rfl rfl hz (of_decide_eq_true rfl) eg ?_
                        clear eg
                        have e0 : ac.eval (.tmp 16) = (.pointer (some ⟨g9, 0, none⟩)) := hf 16 rfl
                        clear hd hz hf hw
                        simp only [Oper.wp, execOp, resolve, List.map_toArray, List.map_cons, List.map_nil, Option.map_some, Option.map_none, e0]
                        go_simp
                        exact hK _ _ rfl (Same.refl _ _)
                      · intro ac wc hs hd hz hf hw K hK
                        have eg : ac.eval (.tmp 150) = .bool false := hw 2 rfl
                        refine run_wanted (j := 2) (d := 150) (b := false) rfl rfl hz (of_decide_eq_true rfl) eg ?_
                        clear eg
                        have e0 : ac.eval (.tmp 153) = (.pointer (some ⟨g9, 0, none⟩)) := hw 5 rfl
                        have m0 : wc.cell? ⟨g9, 0, none⟩ = some (.int .i64 X.1.kind) := hs.cell (p := ⟨g9, 0, none⟩) trivial x0
                        clear hd hz hf hw
                        simp only [Oper.wp, execOp, resolve, List.map_toArray, List.map_cons, List.map_nil, Option.map_some, Option.map_none, e0]
                        go_simp
                        exact hK _ _ rfl (Same.refl _ _)
                      · intro ac wc hs hd hz hf hw K hK
                        have eg : ac.eval (.tmp 150) = .bool false := hw 2 rfl
                        refine run_wanted (j := 2) (d := 150) (b := false) rfl rfl hz (of_decide_eq_true rfl) eg ?_
                        clear eg
                        have e0 : ac.eval (.tmp 154) = (.int .i64 X.1.kind) := hw 6 rfl
                        clear hd hz hf hw
                        simp only [Oper.wp, execOp, resolve, List.map_toArray, List.map_cons, List.map_nil, Option.map_some, Option.map_none, e0]
                        go_simp
                        exact hK _ _ rfl (Same.refl _ _)
                      · intro ac wc hs hd hz hf hw K hK
                        have eg : ac.eval (.tmp 150) = .bool false := hw 2 rfl
                        refine run_wanted (j := 2) (d := 150) (b := false) rfl rfl hz (of_decide_eq_true rfl) eg ?_
                        clear eg
                        have e0 : ac.eval (.tmp 152) = (.bool false) := hw 4 rfl
                        have e1 : ac.eval (.tmp 155) = (.bool false) := hw 7 rfl
                        clear hd hz hf hw
                        simp only [Oper.wp, execOp, resolve, List.map_toArray, List.map_cons, List.map_nil, Option.map_some, Option.map_none, e0, e1]
                        go_simp
                        exact hK _ _ rfl (Same.refl _ _)
                      · intro ac wc hs hd hz hf hw K hK
                        have eg : ac.eval (.tmp 150) = .bool false := hw 2 rfl
                        refine run_wanted (j := 2) (d := 150) (b := false) rfl rfl hz (of_decide_eq_true rfl) eg ?_
                        clear eg
                        have e0 : ac.eval (.tmp 156) = (.bool true) := hw 8 rfl
                        clear hd hz hf hw
                        simp only [Oper.wp, execOp, resolve, List.map_toArray, List.map_cons, List.map_nil, Option.map_some, Option.map_none, e0]
                        go_simp
                        exact hK _ _ rfl (Same.refl _ _)
                      · intro ac wc hs hd hz hf hw K hK
                        have eg : ac.eval (.tmp 157) = .bool true := hw 9 rfl
                        refine run_wanted (j := 9) (d := 157) (b := true) rfl rfl hz (of_decide_eq_true rfl) eg ?_
                        clear eg
                        have e0 : ac.eval (.tmp 20) = (.pointer (some ⟨g11, 0, none⟩)) := hf 20 rfl
                        have m0 : wc.cell? ⟨g11, 0, none⟩ = some (.int .i64 Z.1.kind) := hs.cell (p := ⟨g11, 0, none⟩) trivial q0
                        have m1 : wc.cell? ⟨g11, 1, none⟩ = some (.int .i64 Z.1.n) := hs.cell (p := ⟨g11, 1, none⟩) trivial q1
                        have m2 : wc.cell? ⟨g11, 2, none⟩ = some (.string (str Z.1.s)) := hs.cell (p := ⟨g11, 2, none⟩) trivial q2
                        clear hd hz hf hw
                        simp only [Oper.wp, execOp, resolve, List.map_toArray, List.map_cons, List.map_nil, Option.map_some, Option.map_none, e0]
                        go_simp
                        exact hK _ _ rfl (Same.refl _ _)
                      · intro ac wc hs hd hz hf hw K hK
                        have eg : ac.eval (.tmp 157) = .bool true := hw 9 rfl
                        refine run_wanted (j := 9) (d := 157) (b := true) rfl rfl hz (of_decide_eq_true rfl) eg ?_
                        clear eg
                        have e0 : ac.eval (.tmp 158) = (valV Z.1) := hw 10 rfl
                        clear hd hz hf hw
                        simp only [Oper.wp, execOp, resolve, List.map_toArray, List.map_cons, List.map_nil, Option.map_some, Option.map_none, e0]
                        go_simp
                        refine (gZ _).mono ?_
                        rintro e wd ⟨rfl, hs2⟩
                        exact hK _ _ rfl hs2
                      · intro ac wc hs hd hz hf hw K hK
                        have eg : ac.eval (.tmp 157) = .bool true := hw 9 rfl
                        refine run_wanted (j := 9) (d := 157) (b := true) rfl rfl hz (of_decide_eq_true rfl) eg ?_
                        clear eg
                        have e0 : ac.eval (.tmp 18) = (.pointer (some ⟨g10, 0, none⟩)) := hf 18 rfl
                        have m0 : wc.cell? ⟨g10, 0, none⟩ = some (.int .i64 Y.1.kind) := hs.cell (p := ⟨g10, 0, none⟩) trivial y0
                        have m1 : wc.cell? ⟨g10, 1, none⟩ = some (.int .i64 Y.1.n) := hs.cell (p := ⟨g10, 1, none⟩) trivial y1
                        have m2 : wc.cell? ⟨g10, 2, none⟩ = some (.string (str Y.1.s)) := hs.cell (p := ⟨g10, 2, none⟩) trivial y2
                        clear hd hz hf hw
                        simp only [Oper.wp, execOp, resolve, List.map_toArray, List.map_cons, List.map_nil, Option.map_some, Option.map_none, e0]
                        go_simp
                        exact hK _ _ rfl (Same.refl _ _)
                      · intro ac wc hs hd hz hf hw K hK
                        have eg : ac.eval (.tmp 157) = .bool true := hw 9 rfl
                        refine run_wanted (j := 9) (d := 157) (b := true) rfl rfl hz (of_decide_eq_true rfl) eg ?_
                        clear eg
                        have e0 : ac.eval (.tmp 160) = (valV Y.1) := hw 12 rfl
                        clear hd hz hf hw
                        simp only [Oper.wp, execOp, resolve, List.map_toArray, List.map_cons, List.map_nil, Option.map_some, Option.map_none, e0]
                        go_simp
                        refine (gY _).mono ?_
                        rintro e wd ⟨rfl, hs2⟩
                        exact hK _ _ rfl hs2
                      · intro ac wc hs hd hz hf hw K hK
                        have eg : ac.eval (.tmp 157) = .bool true := hw 9 rfl
                        refine run_wanted (j := 9) (d := 157) (b := true) rfl rfl hz (of_decide_eq_true rfl) eg ?_
                        clear eg
                        have e0 : ac.eval (.tmp 159) = (.bool true) := hw 11 rfl
                        have e1 : ac.eval (.tmp 161) = (.bool false) := hw 13 rfl
                        clear hd hz hf hw
                        simp only [Oper.wp, execOp, resolve, List.map_toArray, List.map_cons, List.map_nil, Option.map_some, Option.map_none, e0, e1]
                        go_simp
                        exact hK _ _ rfl (Same.refl _ _)
                      · intro ac wc hs hd hz hf hw K hK
                        have eg : ac.eval (.tmp 150) = .bool false := hw 2 rfl
                        refine run_wanted (j := 2) (d := 150) (b := false) rfl rfl hz (of_decide_eq_true rfl) eg ?_
                        clear eg
                        have e0 : ac.eval (.tmp 157) = (.bool true) := hw 9 rfl
                        have e1 : ac.eval (.tmp 162) = (.bool true) := hw 14 rfl
                        clear hd hz hf hw
                        simp only [Oper.wp, execOp, resolve, List.map_toArray, List.map_cons, List.map_nil, Option.map_some, Option.map_none, e0, e1]
                        go_simp
                        exact hK _ _ rfl (Same.refl _ _)
                      · intro ac wc hs hd hz hf hw K hK
                        have e0 : ac.eval (.tmp 150) = (.bool false) := hw 2 rfl
                        have e1 : ac.eval (.tmp 163) = (.bool true) := hw 15 rfl
                        clear hd hz hf hw
                        simp only [Region.wanted, if_true, Oper.wp, execOp, resolve, List.map_toArray, List.map_cons, List.map_nil, Option.map_some, Option.map_none, e0, e1]
                        go_simp
                        exact hK _ _ rfl (Same.refl _ _)
                      · intro ac wc hs hd hz hf hw K hK
                        have e0 : ac.eval (.tmp 164) = (.bool true) := hw 16 rfl
                        clear hd hz hf hw
                        simp only [Region.wanted, if_true, Oper.wp, execOp, resolve, List.map_toArray, List.map_cons, List.map_nil, Option.map_some, Option.map_none, e0]
                        go_simp
                        exact hK _ _ rfl (Same.refl _ _)
                    · intro wR hsR
                      simp only [putAll, Act.put, List.setIfInBounds_toArray, List.set_cons_succ, List.set_cons_zero]
                      go_wp2
                      go_ret
                      exact ⟨rfl, HS11.out.trans hsR⟩
                  · go_wp2
                    refine wp_region_eq_lit (vs := [(.int .i64 X.2), (.bool false), (.bool false), (valV Y.1), (.bool true), (.pointer (some ⟨g9, 0, none⟩)), (.int .i64 X.1.kind), (.bool true), (.bool true), (.bool true), (valV Z.1), (.bool false), (valV Y.1), (.bool true), (.bool true), (.bool true), (.bool true), (.bool true)]) (by kernel_rfl) (by kernel_rfl) rfl rfl ?_ ?_
                    · refine ⟨?_, ?_, ?_, ?_, ?_, ?_, ?_, ?_, ?_, ?_, ?_, ?_, ?_, ?_, ?_, ?_, ?_, ?_, trivial⟩
                      · intro ac wc hs hd hz hf hw K hK
                        have e0 : ac.eval (.tmp 17) = (.int .i64 X.2) := hf 17 rfl
                        clear hd hz hf hw
                        simp only [Region.wanted, if_true, Oper.wp, execOp, resolve, List.map_toArray, List.map_cons, List.map_nil, Option.map_some, Option.map_none, e0]
                        go_simp
                        exact hK _ _ rfl (Same.refl _ _)
                      · intro ac wc hs hd hz hf hw K hK
                        have e0 : ac.eval (.tmp 148) = (.int .i64 X.2) := hw 0 rfl
                        clear hd hz hf hw
                        simp only [Region.wanted, if_true, Oper.wp, execOp, resolve, List.map_toArray, List.map_cons, List.map_nil, Option.map_some, Option.map_none, e0]
                        go_simp
                        exact hK _ _ rfl (Same.refl _ _)
                      · intro ac wc hs hd hz hf hw K hK
                        have e0 : ac.eval (.tmp 149) = (.bool false) := hw 1 rfl
                        clear hd hz hf hw
                        simp only [Region.wanted, if_true, Oper.wp, execOp, resolve, List.map_toArray, List.map_cons, List.map_nil, Option.map_some, Option.map_none, e0]
                        go_simp
                        exact hK _ _ rfl (Same.refl _ _)
                      · intro ac wc hs hd hz hf hw K hK
                        have eg : ac.eval (.tmp 150) = .bool false := hw 2 rfl
                        refine run_wanted (j := 2) (d := 150) (b := false) rfl rfl hz (of_decide_eq_true rfl) eg ?_
                        clear eg
                        have e0 : ac.eval (.tmp 18) = (.pointer (some ⟨g10, 0, none⟩)) := hf 18 rfl
                        have m0 : wc.cell? ⟨g10, 0, none⟩ = some (.int .i64 Y.1.kind) := hs.cell (p := ⟨g10, 0, none⟩) trivial y0
                        have m1 : wc.cell? ⟨g10, 1, none⟩ = some (.int .i64 Y.1.n) := hs.cell (p := ⟨g10, 1, none⟩) trivial y1
                        have m2 : wc.cell? ⟨g10, 2, none⟩ = some (.string (str Y.1.s)) := hs.cell (p := ⟨g10, 2, none⟩) trivial y2
                        clear hd hz hf hw
                        simp only [Oper.wp, execOp, resolve, List.map_toArray, List.map_cons, List.map_nil, Option.map_some, Option.map_none, e0]
                        go_simp
                        exact hK _ _ rfl (Same.refl _ _)
                      · intro ac wc hs hd hz hf hw K hK
                        have eg : ac.eval (.tmp 150) = .bool false := hw 2 rfl
                        refine run_wanted (j := 2) (d := 150) (b := false) rfl rfl hz (of_decide_eq_true rfl) eg ?_
                        clear eg
                        have e0 : ac.eval (.tmp 151) = (valV Y.1) := hw 3 rfl
                        clear hd hz hf hw
                        simp only [Oper.wp, execOp, resolve, List.map_toArray, List.map_cons, List.map_nil, Option.map_some, Option.map_none, e0]
                        go_simp
                        refine (gY _).mono ?_
                        rintro e wd ⟨rfl, hs2⟩
                        exact hK _ _ rfl hs2
                      · intro ac wc hs hd hz hf hw K hK
                        have eg : ac.eval (.tmp 150) = .bool false := hw 2 rfl
                        refine run_wanted (j := 2) (d := 150) (b := false) rfl rfl hz (of_decide_eq_true rfl) eg ?_
                        clear eg
                        have e0 : ac.eval (.tmp 16) = (.pointer (some ⟨g9, 0, none⟩)) := hf 16 rfl
                        clear hd hz hf hw
                        simp only [Oper.wp, execOp, resolve, List.map_toArray, List.map_cons, List.map_nil, Option.map_some, Option.map_none, e0]
                        go_simp
                        exact hK _ _ rfl (Same.refl _ _)
                      · intro ac wc hs hd hz hf hw K hK
                        have eg : ac.eval (.tmp 150) = .bool false := hw 2 rfl
                        refine run_wanted (j := 2) (d := 150) (b := false) rfl rfl hz (of_decide_eq_true rfl) eg ?_
                        clear eg
                        have e0 : ac.eval (.tmp 153) = (.pointer (some ⟨g9, 0, none⟩)) := hw 5 rfl
                        have m0 : wc.cell? ⟨g9, 0, none⟩ = some (.int .i64 X.1.kind) := hs.cell (p := ⟨g9, 0, none⟩) trivial x0
                        clear hd hz hf hw
                        simp only [Oper.wp, execOp, resolve, List.map_toArray, List.map_cons, List.map_nil, Option.map_some, Option.map_none, e0]
                        go_simp
                        exact hK _ _ rfl (Same.refl _ _)
                      · intro ac wc hs hd hz hf hw K hK
                        have eg : ac.eval (.tmp 150) = .bool false := hw 2 rfl
                        refine run_wanted (j := 2) (d := 150) (b := false) rfl rfl hz (of_decide_eq_true rfl) eg ?_
                        clear eg
                        have e0 : ac.eval (.tmp 154) = (.int .i64 X.1.kind) := hw 6 rfl
                        clear hd hz hf hw
                        simp only [Oper.wp, execOp, resolve, List.map_toArray, List.map_cons, List.map_nil, Option.map_some, Option.map_none, e0]
                        go_simp
                        exact hK _ _ rfl (Same.refl _ _)
                      · intro ac wc hs hd hz hf hw K hK
                        have eg : ac.eval (.tmp 150) = .bool false := hw 2 rfl
                        refine run_wanted (j := 2) (d := 150) (b := false) rfl rfl hz (of_decide_eq_true rfl) eg ?_
                        clear eg
                        have e0 : ac.eval (.tmp 152) = (.bool true) := hw 4 rfl
                        have e1 : ac.eval (.tmp 155) = (.bool true) := hw 7 rfl
                        clear hd hz hf hw
                        simp only [Oper.wp, execOp, resolve, List.map_toArray, List.map_cons, List.map_nil, Option.map_some, Option.map_none, e0, e1]
                        go_simp
                        exact hK _ _ rfl (Same.refl _ _)
                      · intro ac wc hs hd hz hf hw K hK
                        have eg : ac.eval (.tmp 150) = .bool false := hw 2 rfl
                        refine run_wanted (j := 2) (d := 150) (b := false) rfl rfl hz (of_decide_eq_true rfl) eg ?_
                        clear eg
                        have e0 : ac.eval (.tmp 156) = (.bool true) := hw 8 rfl
                        clear hd hz hf hw
                        simp only [Oper.wp, execOp, resolve, List.map_toArray, List.map_cons, List.map_nil, Option.map_some, Option.map_none, e0]
                        go_simp
                        exact hK _ _ rfl (Same.refl _ _)
                      · intro ac wc hs hd hz hf hw K hK
                        have eg : ac.eval (.tmp 157) = .bool true := hw 9 rfl
                        refine run_wanted (j := 9) (d := 157) (b := true) rfl rfl hz (of_decide_eq_true rfl) eg ?_
                        clear eg
                        have e0 : ac.eval (.tmp 20) = (.pointer (some ⟨g11, 0, none⟩)) := hf 20 rfl
                        have m0 : wc.cell? ⟨g11, 0, none⟩ = some (.int .i64 Z.1.kind) := hs.cell (p := ⟨g11, 0, none⟩) trivial q0
                        have m1 : wc.cell? ⟨g11, 1, none⟩ = some (.int .i64 Z.1.n) := hs.cell (p := ⟨g11, 1, none⟩) trivial q1
                        have m2 : wc.cell? ⟨g11, 2, none⟩ = some (.string (str Z.1.s)) := hs.cell (p := ⟨g11, 2, none⟩) trivial q2
                        clear hd hz hf hw
                        simp only [Oper.wp, execOp, resolve, List.map_toArray, List.map_cons, List.map_nil, Option.map_some, Option.map_none, e0]
                        go_simp
                        exact hK _ _ rfl (Same.refl _ _)
                      · intro ac wc hs hd hz hf hw K hK
                        have eg : ac.eval (.tmp 157) = .bool true := hw 9 rfl
                        refine run_wanted (j := 9) (d := 157) (b := true) rfl rfl hz (of_decide_eq_true rfl) eg ?_
                        clear eg
                        have e0 : ac.eval (.tmp 158) = (valV Z.1) := hw 10 rfl
                        clear hd hz hf hw
                        simp only [Oper.wp, execOp, resolve, List.map_toArray, List.map_cons, List.map_nil, Option.map_some, Option.map_none, e0]
                        go_simp
                        refine (gZ _).mono ?_
                        rintro e wd ⟨rfl, hs2⟩
                        exact hK _ _ rfl hs2
                      · intro ac wc hs hd hz hf hw K hK
                        have eg : ac.eval (.tmp 157) = .bool true := hw 9 rfl
                        refine run_wanted (j := 9) (d := 157) (b := true) rfl rfl hz (of_decide_eq_true rfl) eg ?_
                        clear eg
                        have e0 : ac.eval (.tmp 18) = (.pointer (some ⟨g10, 0, none⟩)) := hf 18 rfl
                        have m0 : wc.cell? ⟨g10, 0, none⟩ = some (.int .i64 Y.1.kind) := hs.cell (p := ⟨g10, 0, none⟩) trivial y0
                        have m1 : wc.cell? ⟨g10, 1, none⟩ = some (.int .i64 Y.1.n) := hs.cell (p := ⟨g10, 1, none⟩) trivial y1
                        have m2 : wc.cell? ⟨g10, 2, none⟩ = some (.string (str Y.1.s)) := hs.cell (p := ⟨g10, 2, none⟩) trivial y2
                        clear hd hz hf hw
                        simp only [Oper.wp, execOp, resolve, List.map_toArray, List.map_cons, List.map_nil, Option.map_some, Option.map_none, e0]
                        go_simp
                        exact hK _ _ rfl (Same.refl _ _)
                      · intro ac wc hs hd hz hf hw K hK
                        have eg : ac.eval (.tmp 157) = .bool true := hw 9 rfl
                        refine run_wanted (j := 9) (d := 157) (b := true) rfl rfl hz (of_decide_eq_true rfl) eg ?_
                        clear eg
                        have e0 : ac.eval (.tmp 160) = (valV Y.1) := hw 12 rfl
                        clear hd hz hf hw
                        simp only [Oper.wp, execOp, resolve, List.map_toArray, List.map_cons, List.map_nil, Option.map_some, Option.map_none, e0]
                        go_simp
                        refine (gY _).mono ?_
                        rintro e wd ⟨rfl, hs2⟩
                        exact hK _ _ rfl hs2
                      · intro ac wc hs hd hz hf hw K hK
                        have eg : ac.eval (.tmp 157) = .bool true := hw 9 rfl
                        refine run_wanted (j := 9) (d := 157) (b := true) rfl rfl hz (of_decide_eq_true rfl) eg ?_
                        clear eg
                        have e0 : ac.eval (.tmp 159) = (.bool false) := hw 11 rfl
                        have e1 : ac.eval (.tmp 161) = (.bool true) := hw 13 rfl
                        clear hd hz hf hw
                        simp only [Oper.wp, execOp, resolve, List.map_toArray, List.map_cons, List.map_nil, Option.map_some, Option.map_none, e0, e1]
                        go_simp
                        exact hK _ _ rfl (Same.refl _ _)
                      · intro ac wc hs hd hz hf hw K hK
                        have eg : ac.eval (.tmp 150) = .bool false := hw 2 rfl
                        refine run_wanted (j := 2) (d := 150) (b := false) rfl rfl hz (of_decide_eq_true rfl) eg ?_
                        clear eg
                        have e0 : ac.eval (.tmp 157) = (.bool true) := hw 9 rfl
                        have e1 : ac.eval (.tmp 162) = (.bool true) := hw 14 rfl
                        clear hd hz hf hw
                        simp only [Oper.wp, execOp, resolve, List.map_toArray, List.map_cons, List.map_nil, Option.map_some, Option.map_none, e0, e1]
                        go_simp
                        exact hK _ _ rfl (Same.refl _ _)
                      · intro ac wc hs hd hz hf hw K hK
                        have e0 : ac.eval (.tmp 150) = (.bool false) := hw 2 rfl
                        have e1 : ac.eval (.tmp 163) = (.bool true) := hw 15 rfl
                        clear hd hz hf hw
                        simp only [Region.wanted, if_true, Oper.wp, execOp, resolve, List.map_toArray, List.map_cons, List.map_nil, Option.map_some, Option.map_none, e0, e1]
                        go_simp
                        exact hK _ _ rfl (Same.refl _ _)
                      · intro ac wc hs hd hz hf hw K hK
                        have e0 : ac.eval (.tmp 164) = (.bool true) := hw 16 rfl
                        clear hd hz hf hw
                        simp only [Region.wanted, if_true, Oper.wp, execOp, resolve, List.map_toArray, List.map_cons, List.map_nil, Option.map_some, Option.map_none, e0]
                        go_simp
                        exact hK _ _ rfl (Same.refl _ _)
                    · intro wR hsR
                      simp only [putAll, Act.put, List.setIfInBounds_toArray, List.set_cons_succ, List.set_cons_zero]
                      go_wp2
                      go_ret
                      exact ⟨rfl, HS11.out.trans hsR⟩
                · have qX : (X.2 != 0) = true := by simpa using hX
                  clear hX htell
                  go_wp2
                  refine wp_region_eq_lit (vs := [(.int .i64 X.2), (.bool true), (.bool true), undef, undef, undef, undef, undef, undef, undef, undef, undef, undef, undef, undef, undef, (.bool true), (.bool true)]) (by kernel_rfl) (by kernel_rfl) rfl rfl ?_ ?_
                  · refine ⟨?_, ?_, ?_, ?_, ?_, ?_, ?_, ?_, ?_, ?_, ?_, ?_, ?_, ?_, ?_, ?_, ?_, ?_, trivial⟩
                    · intro ac wc hs hd hz hf hw K hK
                      have e0 : ac.eval (.tmp 17) = (.int .i64 X.2) := hf 17 rfl
                      clear hd hz hf hw
                      simp only [Region.wanted, if_true, Oper.wp, execOp, resolve, List.map_toArray, List.map_cons, List.map_nil, Option.map_some, Option.map_none, e0]
                      go_simp
                      exact hK _ _ rfl (Same.refl _ _)
                    · intro ac wc hs hd hz hf hw K hK
                      have e0 : ac.eval (.tmp 148) = (.int .i64 X.2) := hw 0 rfl
                      clear hd hz hf hw
                      simp only [Region.wanted, if_true, Oper.wp, execOp, resolve, List.map_toArray, List.map_cons, List.map_nil, Option.map_some, Option.map_none, e0]
                      go_simp
                      exact hK _ _ rfl (Same.refl _ _)
                    · intro ac wc hs hd hz hf hw K hK
                      have e0 : ac.eval (.tmp 149) = (.bool true) := hw 1 rfl
                      clear hd hz hf hw
                      simp only [Region.wanted, if_true, Oper.wp, execOp, resolve, List.map_toArray, List.map_cons, List.map_nil, Option.map_some, Option.map_none, e0]
                      go_simp
                      exact hK _ _ rfl (Same.refl _ _)
                    · intro ac wc hs hd hz hf hw K hK
                      have eg : ac.eval (.tmp 150) = .bool true := hw 2 rfl
                      refine skip_wanted (j := 2) (d := 150) (b := true) rfl rfl hz (of_decide_eq_true rfl) eg ?_
                      clear eg
                      exact hK _ _ rfl (Same.refl _ _)
                    · intro ac wc hs hd hz hf hw K hK
                      have eg : ac.eval (.tmp 150) = .bool true := hw 2 rfl
                      refine skip_wanted (j := 2) (d := 150) (b := true) rfl rfl hz (of_decide_eq_true rfl) eg ?_
                      clear eg
                      exact hK _ _ rfl (Same.refl _ _)
                    · intro ac wc hs hd hz hf hw K hK
                      have eg : ac.eval (.tmp 150) = .bool true := hw 2 rfl
                      refine skip_wanted (j := 2) (d := 150) (b := true) rfl rfl hz (of_decide_eq_true rfl) eg ?_
                      clear eg
                      exact hK _ _ rfl (Same.refl _ _)
                    · intro ac wc hs hd hz hf hw K hK
                      have eg : ac.eval (.tmp 150) = .bool true := hw 2 rfl
                      refine skip_wanted (j := 2) (d := 150) (b := true) rfl rfl hz (of_decide_eq_true rfl) eg ?_
                      clear eg
                      exact hK _ _ rfl (Same.refl _ _)
                    · intro ac wc hs hd hz hf hw K hK
                      have eg : ac.eval (.tmp 150) = .bool true := hw 2 rfl
                      refine skip_wanted (j := 2) (d := 150) (b := true) rfl rfl hz (of_decide_eq_true rfl) eg ?_
                      clear eg
                      exact hK _ _ rfl (Same.refl _ _)
                    · intro ac wc hs hd hz hf hw K hK
                      have eg : ac.eval (.tmp 150) = .bool true := hw 2 rfl
                      refine skip_wanted (j := 2) (d := 150) (b := true) rfl rfl hz (of_decide_eq_true rfl) eg ?_
                      clear eg
                      exact hK _ _ rfl (Same.refl _ _)
                    · intro ac wc hs hd hz hf hw K hK
                      have eg : ac.eval (.tmp 150) = .bool true := hw 2 rfl
                      refine skip_wanted (j := 2) (d := 150) (b := true) rfl rfl hz (of_decide_eq_true rfl) eg ?_
                      clear eg
                      exact hK _ _ rfl (Same.refl _ _)
                    · intro ac wc hs hd hz hf hw K hK
                      have eg : ac.eval (.tmp 157) = undef := hw 9 rfl
                      refine skip_undef (j := 9) (d := 157) rfl rfl hz (of_decide_eq_true rfl) eg ?_
                      exact hK _ _ rfl (Same.refl _ _)
                    · intro ac wc hs hd hz hf hw K hK
                      have eg : ac.eval (.tmp 157) = undef := hw 9 rfl
                      refine skip_undef (j := 9) (d := 157) rfl rfl hz (of_decide_eq_true rfl) eg ?_
                      exact hK _ _ rfl (Same.refl _ _)
                    · intro ac wc hs hd hz hf hw K hK
                      have eg : ac.eval (.tmp 157) = undef := hw 9 rfl
                      refine skip_undef (j := 9) (d := 157) rfl rfl hz (of_decide_eq_true rfl) eg ?_
                      exact hK _ _ rfl (Same.refl _ _)
                    · intro ac wc hs hd hz hf hw K hK
                      have eg : ac.eval (.tmp 157) = undef := hw 9 rfl
                      refine skip_undef (j := 9) (d := 157) rfl rfl hz (of_decide_eq_true rfl) eg ?_
                      exact hK _ _ rfl (Same.refl _ _)
                    · intro ac wc hs hd hz hf hw K hK
                      have eg : ac.eval (.tmp 157) = undef := hw 9 rfl
                      refine skip_undef (j := 9) (d := 157) rfl rfl hz (of_decide_eq_true rfl) eg ?_
                      exact hK _ _ rfl (Same.refl _ _)
                    · intro ac wc hs hd hz hf hw K hK
                      have eg : ac.eval (.tmp 150) = .bool true := hw 2 rfl
                      refine skip_wanted (j := 2) (d := 150) (b := true) rfl rfl hz (of_decide_eq_true rfl) eg ?_
                      clear eg
                      exact hK _ _ rfl (Same.refl _ _)
                    · intro ac wc hs hd hz hf hw K hK
                      have e0 : ac.eval (.tmp 150) = (.bool true) := hw 2 rfl
                      have e1 : ac.eval (.tmp 163) = undef := hw 15 rfl
                      clear hd hz hf hw
                      simp only [Region.wanted, if_true, Oper.wp, execOp, resolve, List.map_toArray, List.map_cons, List.map_nil, Option.map_some, Option.map_none, e0, e1]
                      go_simp
                      exact hK _ _ rfl (Same.refl _ _)
                    · intro ac wc hs hd hz hf hw K hK
                      have e0 : ac.eval (.tmp 164) = (.bool true) := hw 16 rfl
                      clear hd hz hf hw
                      simp only [Region.wanted, if_true, Oper.wp, execOp, resolve, List.map_toArray, List.map_cons, List.map_nil, Option.map_some, Option.map_none, e0]
                      go_simp
                      exact hK _ _ rfl (Same.refl _ _)
                  · intro wR hsR
                    simp only [putAll, Act.put, List.setIfInBounds_toArray, List.set_cons_succ, List.set_cons_zero]
                    go_wp2
                    go_ret
                    exact ⟨rfl, HS11.out.trans hsR⟩
end Go.Proofs.Ytakbikibahhepaa
