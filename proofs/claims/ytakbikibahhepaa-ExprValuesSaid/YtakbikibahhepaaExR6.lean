/-
  The walk of the document's MayRow.
-/
import Derived.Test.YtakbikibahhepaaExR5
set_option linter.unusedSimpArgs false
set_option linter.unusedVariables false
namespace Go.Proofs.Ytakbikibahhepaa
open Go.RowKit

set_option maxRecDepth 100000 in
set_option maxHeartbeats 4000000 in
theorem refMayRow_any (cu rv : Value) (t : TabT) (cols : List Clm) (row : List Val) (S : Nat → Prop) (w : World) (ht : TabR w S cu t cols) (hrow : VaR w S rv row) :
    Calls Try.prog 30 #[tabV cu t, rv] w (BoolP (mayRowB cols row) w) := by
  obtain ⟨hcl, a1, n1, c1, a2, n2, c2, a3, n3, c3, q1, q2, q3⟩ := ht
  obtain ⟨Ac, cc, rfl, hcc, hcm⟩ := hcl.form
  obtain ⟨nm, key, place, region, v1, v2, v3, elect, commit, survive⟩ := t
  simp only at q1 q2 q3
  subst q1 q2 q3
  obtain ⟨Ar, cr, rfl, hrc, hrm⟩ := hrow.form
  unfold maxLen at hcm hrm
  obtain ⟨TC, hTC⟩ : ∃ TC, TC = tabCs (.slice Ac cols.length cc) ⟨nm, key, place, region, .slice a1 n1 c1, .slice a2 n2 c2, .slice a3 n3 c3, elect, commit, survive⟩ := ⟨_, rfl⟩
  have hS0 := (Same.refl (fun _ => True) w).alloc (.cells TC.toArray 32)
  have hrt := Row.new w 32 TC
  obtain ⟨W0, hW0⟩ : ∃ W0, W0 = w.alloc (.cells TC.toArray 32) := ⟨_, rfl⟩
  have HW0 := Lib.hid hW0
  have HTC := Lib.hid hTC
  rw [← hW0] at hS0 hrt
  rw [hTC] at hrt
  have HS := Lib.hid hS0
  have Hrt := Lib.hid hrt
  have Hrow := Lib.hid hrow
  have Hcl := Lib.hid hcl
  have zt := hrt.lt
  obtain ⟨F, hF⟩ : ∃ F, mayRowB cols row = F := ⟨_, rfl⟩
  have HF := Lib.hid hF
  rw [hF]
  have t1 : W0.cell? ⟨w.heap.size, 1, none⟩ = some (.slice Ac cols.length cc) := hrt.cell 1
  clear hTC hW0 hS0 hrt hrow hcl hF
  go_enter Try.func30, Try.ntmps30
  by_cases hrl : row.length = cols.length
  · have b5 : ((row.length : Int) != (cols.length : Int)) = false := by simp; omega
    have b6 : (row.length != cols.length) = false := by simpa using hrl
    have Hrl := Lib.hid hrl
    have hle : row.length ≤ cols.length := by omega
    have hge : cols.length ≤ row.length := by omega
    have HK2 : Hid (F = ((row.zip cols).drop 0).all rowB) := Lib.hid (by
      rw [← HF.out, List.drop_zero]
      unfold mayRowB
      rw [show decide (row.length = cols.length) = true from decide_eq_true hrl, Bool.true_and]
      rfl)
    clear hrl
    go_wp2
    go_loopw [5] (fun i wr => ∃ (j : Nat), j ≤ row.length ∧ i = .int .i64 j ∧ F = ((row.zip cols).drop j).all rowB ∧ Same (fun _ => True) W0 wr) (fun i _ => row.length - (intOf i).toNat)
    case atStart => exact ⟨0, Nat.zero_le _, rfl, HK2.out, by have e9 := HW0.out; rw [HTC.out] at e9; rw [e9]; exact Same.refl _ _⟩
    case round =>
      obtain ⟨j, hj, rfl, hrel, hS⟩ := hrel
      have Hrel := Lib.hid hrel
      have HSr := Lib.hid hS
      have hrt := Hrt.out.keep hS trivial
      have z3 := hrt.lt
      have t1 : wr.cell? ⟨w.heap.size, 1, none⟩ = some (.slice Ac cols.length cc) := hrt.cell 1
      clear hrel hrt
      by_cases hlt : j < row.length
      · obtain ⟨ad, rfl, -, d0, d1, d2⟩ := VaR.cells (RowR.keepAll Hrow.out (HS.out.trans hS)) hlt
        have hjc : j < cols.length := by omega
        obtain ⟨adc, rfl, -, e0, e1, e2⟩ := ClR.cells (RowR.keepAll Hcl.out (HS.out.trans hS)) hjc
        have hd := rowB_drop hlt hjc
        have x1 : (0 : Int) ≤ (j : Int) := by omega
        have x2 : (j : Int) < (row.length : Int) := by omega
        have x3 : (j : Int) < (cols.length : Int) := by omega
        generalize row[j] = x at *
        generalize cols[j] = k at *
        have Hd := Lib.hid hd
        have hab := World.block_lt_of_cell? wr _ d0
        have hac := World.block_lt_of_cell? wr _ e1
        have gm := fun W => refMay_any x W
        obtain ⟨M, hM⟩ : ∃ M, mayV x = M := ⟨_, rfl⟩
        rw [hM] at gm
        have HM := Lib.hid hM
        have q1 : (x.kind != k.kind) = !(decide (x.kind = k.kind)) := rfl
        have q2 : (x.kind != 0) = !(decide (x.kind = 0)) := rfl
        obtain ⟨B1, hB1⟩ : ∃ B, decide (x.kind = k.kind) = B := ⟨_, rfl⟩
        obtain ⟨B2, hB2⟩ : ∃ B, decide (x.kind = 0) = B := ⟨_, rfl⟩
        rw [hB1] at q1
        rw [hB2] at q2
        have hE : rowB (x, k) = (M && (B1 || B2)) := by unfold rowB; rw [hM, hB1, hB2]
        have HE := Lib.hid hE
        clear hd hM hB1 hB2 hE hS e0 e2
        go_wp2
        cases M
        · try simp only [Bool.not_false, Bool.not_true] at q1 q2
          refine wp_region_eq_lit (vs := [(.slice (some ad) row.length cr), (.int .i64 j), (.pointer (some (ad.add (j * 3)))), (valV x), (.bool false), (.bool true), (.bool true), undef, undef, undef, undef, undef, undef, undef, undef, undef, undef, undef, undef, undef, undef, undef, undef, undef, undef, undef, undef, (.bool true)]) (by kernel_rfl) (by kernel_rfl) rfl rfl ?_ ?_
          · refine ⟨?_, ?_, ?_, ?_, ?_, ?_, ?_, ?_, ?_, ?_, ?_, ?_, ?_, ?_, ?_, ?_, ?_, ?_, ?_, ?_, ?_, ?_, ?_, ?_, ?_, ?_, ?_, ?_, trivial⟩
            · intro ac wc hs hd hz hf hw K hK
              have e0 : ac.eval (.tmp 1) = (.slice (some ad) row.length cr) := hf 1 rfl
              clear hd hz hf hw
              simp only [Region.wanted, if_true, Oper.wp, execOp, resolve, List.map_toArray, List.map_cons, List.map_nil, Option.map_some, Option.map_none, e0]
              go_simp
              exact hK _ _ rfl (Same.refl _ _)
            · intro ac wc hs hd hz hf hw K hK
              have e0 : ac.eval (.tmp 5) = (.int .i64 j) := hf 5 rfl
              clear hd hz hf hw
              simp only [Region.wanted, if_true, Oper.wp, execOp, resolve, List.map_toArray, List.map_cons, List.map_nil, Option.map_some, Option.map_none, e0]
              go_simp
              exact hK _ _ rfl (Same.refl _ _)
            · intro ac wc hs hd hz hf hw K hK
              have e0 : ac.eval (.tmp 18) = (.slice (some ad) row.length cr) := hw 0 rfl
              have e1 : ac.eval (.tmp 19) = (.int .i64 j) := hw 1 rfl
              clear hd hz hf hw
              simp only [Region.wanted, if_true, Oper.wp, execOp, resolve, List.map_toArray, List.map_cons, List.map_nil, Option.map_some, Option.map_none, e0, e1]
              go_simp
              exact hK _ _ rfl (Same.refl _ _)
            · intro ac wc hs hd hz hf hw K hK
              have e0 : ac.eval (.tmp 20) = (.pointer (some (ad.add (j * 3)))) := hw 2 rfl
              have m0 : wc.cell? (ad.add (j * 3)) = some (.int .i64 x.kind) := hs.cell (p := (ad.add (j * 3))) trivial d0
              have m1 : wc.cell? ⟨(ad.add (j * 3)).block, (ad.add (j * 3)).off + 1, none⟩ = some (.int .i64 x.n) := hs.cell (p := ⟨(ad.add (j * 3)).block, (ad.add (j * 3)).off + 1, none⟩) trivial d1
              have m2 : wc.cell? ⟨(ad.add (j * 3)).block, (ad.add (j * 3)).off + 2, none⟩ = some (.string (str x.s)) := hs.cell (p := ⟨(ad.add (j * 3)).block, (ad.add (j * 3)).off + 2, none⟩) trivial d2
              clear hd hz hf hw
              simp only [Region.wanted, if_true, Oper.wp, execOp, resolve, List.map_toArray, List.map_cons, List.map_nil, Option.map_some, Option.map_none, e0]
              go_simp
              exact hK _ _ rfl (Same.refl _ _)
            · intro ac wc hs hd hz hf hw K hK
              have e0 : ac.eval (.tmp 21) = (valV x) := hw 3 rfl
              clear hd hz hf hw
              simp only [Region.wanted, if_true, Oper.wp, execOp, resolve, List.map_toArray, List.map_cons, List.map_nil, Option.map_some, Option.map_none, e0]
              go_simp
              refine (gm _).mono ?_
              rintro e wd ⟨rfl, hs2⟩
              exact hK _ _ rfl hs2
            · intro ac wc hs hd hz hf hw K hK
              have e0 : ac.eval (.tmp 22) = (.bool false) := hw 4 rfl
              clear hd hz hf hw
              simp only [Region.wanted, if_true, Oper.wp, execOp, resolve, List.map_toArray, List.map_cons, List.map_nil, Option.map_some, Option.map_none, e0]
              go_simp
              exact hK _ _ rfl (Same.refl _ _)
            · intro ac wc hs hd hz hf hw K hK
              have e0 : ac.eval (.tmp 23) = (.bool true) := hw 5 rfl
              clear hd hz hf hw
              simp only [Region.wanted, if_true, Oper.wp, execOp, resolve, List.map_toArray, List.map_cons, List.map_nil, Option.map_some, Option.map_none, e0]
              go_simp
              exact hK _ _ rfl (Same.refl _ _)
            · intro ac wc hs hd hz hf hw K hK
              have eg : ac.eval (.tmp 24) = .bool true := hw 6 rfl
              refine skip_wanted (j := 6) (d := 24) (b := true) rfl rfl hz (of_decide_eq_true rfl) eg ?_
              clear eg
              exact hK _ _ rfl (Same.refl _ _)
            · intro ac wc hs hd hz hf hw K hK
              have eg : ac.eval (.tmp 24) = .bool true := hw 6 rfl
              refine skip_wanted (j := 6) (d := 24) (b := true) rfl rfl hz (of_decide_eq_true rfl) eg ?_
              clear eg
              exact hK _ _ rfl (Same.refl _ _)
            · intro ac wc hs hd hz hf hw K hK
              have eg : ac.eval (.tmp 24) = .bool true := hw 6 rfl
              refine skip_wanted (j := 6) (d := 24) (b := true) rfl rfl hz (of_decide_eq_true rfl) eg ?_
              clear eg
              exact hK _ _ rfl (Same.refl _ _)
            · intro ac wc hs hd hz hf hw K hK
              have eg : ac.eval (.tmp 24) = .bool true := hw 6 rfl
              refine skip_wanted (j := 6) (d := 24) (b := true) rfl rfl hz (of_decide_eq_true rfl) eg ?_
              clear eg
              exact hK _ _ rfl (Same.refl _ _)
            · intro ac wc hs hd hz hf hw K hK
              have eg : ac.eval (.tmp 24) = .bool true := hw 6 rfl
              refine skip_wanted (j := 6) (d := 24) (b := true) rfl rfl hz (of_decide_eq_true rfl) eg ?_
              clear eg
              exact hK _ _ rfl (Same.refl _ _)
            · intro ac wc hs hd hz hf hw K hK
              have eg : ac.eval (.tmp 24) = .bool true := hw 6 rfl
              refine skip_wanted (j := 6) (d := 24) (b := true) rfl rfl hz (of_decide_eq_true rfl) eg ?_
              clear eg
              exact hK _ _ rfl (Same.refl _ _)
            · intro ac wc hs hd hz hf hw K hK
              have eg : ac.eval (.tmp 24) = .bool true := hw 6 rfl
              refine skip_wanted (j := 6) (d := 24) (b := true) rfl rfl hz (of_decide_eq_true rfl) eg ?_
              clear eg
              exact hK _ _ rfl (Same.refl _ _)
            · intro ac wc hs hd hz hf hw K hK
              have eg : ac.eval (.tmp 31) = undef := hw 13 rfl
              refine skip_undef (j := 13) (d := 31) rfl rfl hz (of_decide_eq_true rfl) eg ?_
              exact hK _ _ rfl (Same.refl _ _)
            · intro ac wc hs hd hz hf hw K hK
              have eg : ac.eval (.tmp 31) = undef := hw 13 rfl
              refine skip_undef (j := 13) (d := 31) rfl rfl hz (of_decide_eq_true rfl) eg ?_
              exact hK _ _ rfl (Same.refl _ _)
            · intro ac wc hs hd hz hf hw K hK
              have eg : ac.eval (.tmp 31) = undef := hw 13 rfl
              refine skip_undef (j := 13) (d := 31) rfl rfl hz (of_decide_eq_true rfl) eg ?_
              exact hK _ _ rfl (Same.refl _ _)
            · intro ac wc hs hd hz hf hw K hK
              have eg : ac.eval (.tmp 31) = undef := hw 13 rfl
              refine skip_undef (j := 13) (d := 31) rfl rfl hz (of_decide_eq_true rfl) eg ?_
              exact hK _ _ rfl (Same.refl _ _)
            · intro ac wc hs hd hz hf hw K hK
              have eg : ac.eval (.tmp 31) = undef := hw 13 rfl
              refine skip_undef (j := 13) (d := 31) rfl rfl hz (of_decide_eq_true rfl) eg ?_
              exact hK _ _ rfl (Same.refl _ _)
            · intro ac wc hs hd hz hf hw K hK
              have eg : ac.eval (.tmp 31) = undef := hw 13 rfl
              refine skip_undef (j := 13) (d := 31) rfl rfl hz (of_decide_eq_true rfl) eg ?_
              exact hK _ _ rfl (Same.refl _ _)
            · intro ac wc hs hd hz hf hw K hK
              have eg : ac.eval (.tmp 31) = undef := hw 13 rfl
              refine skip_undef (j := 13) (d := 31) rfl rfl hz (of_decide_eq_true rfl) eg ?_
              exact hK _ _ rfl (Same.refl _ _)
            · intro ac wc hs hd hz hf hw K hK
              have eg : ac.eval (.tmp 31) = undef := hw 13 rfl
              refine skip_undef (j := 13) (d := 31) rfl rfl hz (of_decide_eq_true rfl) eg ?_
              exact hK _ _ rfl (Same.refl _ _)
            · intro ac wc hs hd hz hf hw K hK
              have eg : ac.eval (.tmp 31) = undef := hw 13 rfl
              refine skip_undef (j := 13) (d := 31) rfl rfl hz (of_decide_eq_true rfl) eg ?_
              exact hK _ _ rfl (Same.refl _ _)
            · intro ac wc hs hd hz hf hw K hK
              have eg : ac.eval (.tmp 31) = undef := hw 13 rfl
              refine skip_undef (j := 13) (d := 31) rfl rfl hz (of_decide_eq_true rfl) eg ?_
              exact hK _ _ rfl (Same.refl _ _)
            · intro ac wc hs hd hz hf hw K hK
              have eg : ac.eval (.tmp 31) = undef := hw 13 rfl
              refine skip_undef (j := 13) (d := 31) rfl rfl hz (of_decide_eq_true rfl) eg ?_
              exact hK _ _ rfl (Same.refl _ _)
            · intro ac wc hs hd hz hf hw K hK
              have eg : ac.eval (.tmp 31) = undef := hw 13 rfl
              refine skip_undef (j := 13) (d := 31) rfl rfl hz (of_decide_eq_true rfl) eg ?_
              exact hK _ _ rfl (Same.refl _ _)
            · intro ac wc hs hd hz hf hw K hK
              have eg : ac.eval (.tmp 24) = .bool true := hw 6 rfl
              refine skip_wanted (j := 6) (d := 24) (b := true) rfl rfl hz (of_decide_eq_true rfl) eg ?_
              clear eg
              exact hK _ _ rfl (Same.refl _ _)
            · intro ac wc hs hd hz hf hw K hK
              have e0 : ac.eval (.tmp 24) = (.bool true) := hw 6 rfl
              have e1 : ac.eval (.tmp 44) = undef := hw 26 rfl
              clear hd hz hf hw
              simp only [Region.wanted, if_true, Oper.wp, execOp, resolve, List.map_toArray, List.map_cons, List.map_nil, Option.map_some, Option.map_none, e0, e1]
              go_simp
              exact hK _ _ rfl (Same.refl _ _)
          · intro wR hsR
            simp only [putAll, Act.put, List.setIfInBounds_toArray, List.set_cons_succ, List.set_cons_zero]
            have K : F = false := Hrel.out.trans (by rw [Hd.out, HE.out]; rfl)
            have HKK := Lib.hid K
            have HsR := Lib.hid hsR
            clear K hsR
            go_wp2
            go_ret
            exact ⟨by rw [HKK.out]; rfl, HS.out.trans (HSr.out.trans HsR.out)⟩
        · cases B2
          · cases B1
            · try simp only [Bool.not_false, Bool.not_true] at q1 q2
              refine wp_region_eq_lit (vs := [(.slice (some ad) row.length cr), (.int .i64 j), (.pointer (some (ad.add (j * 3)))), (valV x), (.bool true), (.bool false), (.bool false), (.slice (some ad) row.length cr), (.int .i64 j), (.pointer (some (ad.add (j * 3)))), (.pointer (some (ad.add (j * 3)))), (.int .i64 x.kind), (.bool true), (.bool true), (.slice (some ad) row.length cr), (.int .i64 j), (.pointer (some (ad.add (j * 3)))), (.pointer (some (ad.add (j * 3)))), (.int .i64 x.kind), (.pointer (some ⟨w.heap.size, 1, none⟩)), (.slice (some adc) cols.length cc), (.int .i64 j), (.pointer (some (adc.add (j * 3)))), (.pointer (some ⟨(adc.add (j * 3)).block, (adc.add (j * 3)).off + 1, none⟩)), (.int .i64 k.kind), (.bool true), (.bool true), (.bool true)]) (by kernel_rfl) (by kernel_rfl) rfl rfl ?_ ?_
              · refine ⟨?_, ?_, ?_, ?_, ?_, ?_, ?_, ?_, ?_, ?_, ?_, ?_, ?_, ?_, ?_, ?_, ?_, ?_, ?_, ?_, ?_, ?_, ?_, ?_, ?_, ?_, ?_, ?_, trivial⟩
                · intro ac wc hs hd hz hf hw K hK
                  have e0 : ac.eval (.tmp 1) = (.slice (some ad) row.length cr) := hf 1 rfl
                  clear hd hz hf hw
                  simp only [Region.wanted, if_true, Oper.wp, execOp, resolve, List.map_toArray, List.map_cons, List.map_nil, Option.map_some, Option.map_none, e0]
                  go_simp
                  exact hK _ _ rfl (Same.refl _ _)
                · intro ac wc hs hd hz hf hw K hK
                  have e0 : ac.eval (.tmp 5) = (.int .i64 j) := hf 5 rfl
                  clear hd hz hf hw
                  simp only [Region.wanted, if_true, Oper.wp, execOp, resolve, List.map_toArray, List.map_cons, List.map_nil, Option.map_some, Option.map_none, e0]
                  go_simp
                  exact hK _ _ rfl (Same.refl _ _)
                · intro ac wc hs hd hz hf hw K hK
                  have e0 : ac.eval (.tmp 18) = (.slice (some ad) row.length cr) := hw 0 rfl
                  have e1 : ac.eval (.tmp 19) = (.int .i64 j) := hw 1 rfl
                  clear hd hz hf hw
                  simp only [Region.wanted, if_true, Oper.wp, execOp, resolve, List.map_toArray, List.map_cons, List.map_nil, Option.map_some, Option.map_none, e0, e1]
                  go_simp
                  exact hK _ _ rfl (Same.refl _ _)
                · intro ac wc hs hd hz hf hw K hK
                  have e0 : ac.eval (.tmp 20) = (.pointer (some (ad.add (j * 3)))) := hw 2 rfl
                  have m0 : wc.cell? (ad.add (j * 3)) = some (.int .i64 x.kind) := hs.cell (p := (ad.add (j * 3))) trivial d0
                  have m1 : wc.cell? ⟨(ad.add (j * 3)).block, (ad.add (j * 3)).off + 1, none⟩ = some (.int .i64 x.n) := hs.cell (p := ⟨(ad.add (j * 3)).block, (ad.add (j * 3)).off + 1, none⟩) trivial d1
                  have m2 : wc.cell? ⟨(ad.add (j * 3)).block, (ad.add (j * 3)).off + 2, none⟩ = some (.string (str x.s)) := hs.cell (p := ⟨(ad.add (j * 3)).block, (ad.add (j * 3)).off + 2, none⟩) trivial d2
                  clear hd hz hf hw
                  simp only [Region.wanted, if_true, Oper.wp, execOp, resolve, List.map_toArray, List.map_cons, List.map_nil, Option.map_some, Option.map_none, e0]
                  go_simp
                  exact hK _ _ rfl (Same.refl _ _)
                · intro ac wc hs hd hz hf hw K hK
                  have e0 : ac.eval (.tmp 21) = (valV x) := hw 3 rfl
                  clear hd hz hf hw
                  simp only [Region.wanted, if_true, Oper.wp, execOp, resolve, List.map_toArray, List.map_cons, List.map_nil, Option.map_some, Option.map_none, e0]
                  go_simp
                  refine (gm _).mono ?_
                  rintro e wd ⟨rfl, hs2⟩
                  exact hK _ _ rfl hs2
                · intro ac wc hs hd hz hf hw K hK
                  have e0 : ac.eval (.tmp 22) = (.bool true) := hw 4 rfl
                  clear hd hz hf hw
                  simp only [Region.wanted, if_true, Oper.wp, execOp, resolve, List.map_toArray, List.map_cons, List.map_nil, Option.map_some, Option.map_none, e0]
                  go_simp
                  exact hK _ _ rfl (Same.refl _ _)
                · intro ac wc hs hd hz hf hw K hK
                  have e0 : ac.eval (.tmp 23) = (.bool false) := hw 5 rfl
                  clear hd hz hf hw
                  simp only [Region.wanted, if_true, Oper.wp, execOp, resolve, List.map_toArray, List.map_cons, List.map_nil, Option.map_some, Option.map_none, e0]
                  go_simp
                  exact hK _ _ rfl (Same.refl _ _)
                · intro ac wc hs hd hz hf hw K hK
                  have eg : ac.eval (.tmp 24) = .bool false := hw 6 rfl
                  refine run_wanted (j := 6) (d := 24) (b := false) rfl rfl hz (of_decide_eq_true rfl) eg ?_
                  clear eg
                  have e0 : ac.eval (.tmp 1) = (.slice (some ad) row.length cr) := hf 1 rfl
                  clear hd hz hf hw
                  simp only [Oper.wp, execOp, resolve, List.map_toArray, List.map_cons, List.map_nil, Option.map_some, Option.map_none, e0]
                  go_simp
                  exact hK _ _ rfl (Same.refl _ _)
                · intro ac wc hs hd hz hf hw K hK
                  have eg : ac.eval (.tmp 24) = .bool false := hw 6 rfl
                  refine run_wanted (j := 6) (d := 24) (b := false) rfl rfl hz (of_decide_eq_true rfl) eg ?_
                  clear eg
                  have e0 : ac.eval (.tmp 5) = (.int .i64 j) := hf 5 rfl
                  clear hd hz hf hw
                  simp only [Oper.wp, execOp, resolve, List.map_toArray, List.map_cons, List.map_nil, Option.map_some, Option.map_none, e0]
                  go_simp
                  exact hK _ _ rfl (Same.refl _ _)
                · intro ac wc hs hd hz hf hw K hK
                  have eg : ac.eval (.tmp 24) = .bool false := hw 6 rfl
                  refine run_wanted (j := 6) (d := 24) (b := false) rfl rfl hz (of_decide_eq_true rfl) eg ?_
                  clear eg
                  have e0 : ac.eval (.tmp 25) = (.slice (some ad) row.length cr) := hw 7 rfl
                  have e1 : ac.eval (.tmp 26) = (.int .i64 j) := hw 8 rfl
                  clear hd hz hf hw
                  simp only [Oper.wp, execOp, resolve, List.map_toArray, List.map_cons, List.map_nil, Option.map_some, Option.map_none, e0, e1]
                  go_simp
                  exact hK _ _ rfl (Same.refl _ _)
                · intro ac wc hs hd hz hf hw K hK
                  have eg : ac.eval (.tmp 24) = .bool false := hw 6 rfl
                  refine run_wanted (j := 6) (d := 24) (b := false) rfl rfl hz (of_decide_eq_true rfl) eg ?_
                  clear eg
                  have e0 : ac.eval (.tmp 27) = (.pointer (some (ad.add (j * 3)))) := hw 9 rfl
                  clear hd hz hf hw
                  simp only [Oper.wp, execOp, resolve, List.map_toArray, List.map_cons, List.map_nil, Option.map_some, Option.map_none, e0]
                  go_simp
                  exact hK _ _ rfl (Same.refl _ _)
                · intro ac wc hs hd hz hf hw K hK
                  have eg : ac.eval (.tmp 24) = .bool false := hw 6 rfl
                  refine run_wanted (j := 6) (d := 24) (b := false) rfl rfl hz (of_decide_eq_true rfl) eg ?_
                  clear eg
                  have e0 : ac.eval (.tmp 28) = (.pointer (some (ad.add (j * 3)))) := hw 10 rfl
                  have m0 : wc.cell? (ad.add (j * 3)) = some (.int .i64 x.kind) := hs.cell (p := (ad.add (j * 3))) trivial d0
                  clear hd hz hf hw
                  simp only [Oper.wp, execOp, resolve, List.map_toArray, List.map_cons, List.map_nil, Option.map_some, Option.map_none, e0]
                  go_simp
                  exact hK _ _ rfl (Same.refl _ _)
                · intro ac wc hs hd hz hf hw K hK
                  have eg : ac.eval (.tmp 24) = .bool false := hw 6 rfl
                  refine run_wanted (j := 6) (d := 24) (b := false) rfl rfl hz (of_decide_eq_true rfl) eg ?_
                  clear eg
                  have e0 : ac.eval (.tmp 29) = (.int .i64 x.kind) := hw 11 rfl
                  clear hd hz hf hw
                  simp only [Oper.wp, execOp, resolve, List.map_toArray, List.map_cons, List.map_nil, Option.map_some, Option.map_none, e0]
                  go_simp
                  exact hK _ _ rfl (Same.refl _ _)
                · intro ac wc hs hd hz hf hw K hK
                  have eg : ac.eval (.tmp 24) = .bool false := hw 6 rfl
                  refine run_wanted (j := 6) (d := 24) (b := false) rfl rfl hz (of_decide_eq_true rfl) eg ?_
                  clear eg
                  have e0 : ac.eval (.tmp 30) = (.bool true) := hw 12 rfl
                  clear hd hz hf hw
                  simp only [Oper.wp, execOp, resolve, List.map_toArray, List.map_cons, List.map_nil, Option.map_some, Option.map_none, e0]
                  go_simp
                  exact hK _ _ rfl (Same.refl _ _)
                · intro ac wc hs hd hz hf hw K hK
                  have eg : ac.eval (.tmp 31) = .bool true := hw 13 rfl
                  refine run_wanted (j := 13) (d := 31) (b := true) rfl rfl hz (of_decide_eq_true rfl) eg ?_
                  clear eg
                  have e0 : ac.eval (.tmp 1) = (.slice (some ad) row.length cr) := hf 1 rfl
                  clear hd hz hf hw
                  simp only [Oper.wp, execOp, resolve, List.map_toArray, List.map_cons, List.map_nil, Option.map_some, Option.map_none, e0]
                  go_simp
                  exact hK _ _ rfl (Same.refl _ _)
                · intro ac wc hs hd hz hf hw K hK
                  have eg : ac.eval (.tmp 31) = .bool true := hw 13 rfl
                  refine run_wanted (j := 13) (d := 31) (b := true) rfl rfl hz (of_decide_eq_true rfl) eg ?_
                  clear eg
                  have e0 : ac.eval (.tmp 5) = (.int .i64 j) := hf 5 rfl
                  clear hd hz hf hw
                  simp only [Oper.wp, execOp, resolve, List.map_toArray, List.map_cons, List.map_nil, Option.map_some, Option.map_none, e0]
                  go_simp
                  exact hK _ _ rfl (Same.refl _ _)
                · intro ac wc hs hd hz hf hw K hK
                  have eg : ac.eval (.tmp 31) = .bool true := hw 13 rfl
                  refine run_wanted (j := 13) (d := 31) (b := true) rfl rfl hz (of_decide_eq_true rfl) eg ?_
                  clear eg
                  have e0 : ac.eval (.tmp 32) = (.slice (some ad) row.length cr) := hw 14 rfl
                  have e1 : ac.eval (.tmp 33) = (.int .i64 j) := hw 15 rfl
                  clear hd hz hf hw
                  simp only [Oper.wp, execOp, resolve, List.map_toArray, List.map_cons, List.map_nil, Option.map_some, Option.map_none, e0, e1]
                  go_simp
                  exact hK _ _ rfl (Same.refl _ _)
                · intro ac wc hs hd hz hf hw K hK
                  have eg : ac.eval (.tmp 31) = .bool true := hw 13 rfl
                  refine run_wanted (j := 13) (d := 31) (b := true) rfl rfl hz (of_decide_eq_true rfl) eg ?_
                  clear eg
                  have e0 : ac.eval (.tmp 34) = (.pointer (some (ad.add (j * 3)))) := hw 16 rfl
                  clear hd hz hf hw
                  simp only [Oper.wp, execOp, resolve, List.map_toArray, List.map_cons, List.map_nil, Option.map_some, Option.map_none, e0]
                  go_simp
                  exact hK _ _ rfl (Same.refl _ _)
                · intro ac wc hs hd hz hf hw K hK
                  have eg : ac.eval (.tmp 31) = .bool true := hw 13 rfl
                  refine run_wanted (j := 13) (d := 31) (b := true) rfl rfl hz (of_decide_eq_true rfl) eg ?_
                  clear eg
                  have e0 : ac.eval (.tmp 35) = (.pointer (some (ad.add (j * 3)))) := hw 17 rfl
                  have m0 : wc.cell? (ad.add (j * 3)) = some (.int .i64 x.kind) := hs.cell (p := (ad.add (j * 3))) trivial d0
                  clear hd hz hf hw
                  simp only [Oper.wp, execOp, resolve, List.map_toArray, List.map_cons, List.map_nil, Option.map_some, Option.map_none, e0]
                  go_simp
                  exact hK _ _ rfl (Same.refl _ _)
                · intro ac wc hs hd hz hf hw K hK
                  have eg : ac.eval (.tmp 31) = .bool true := hw 13 rfl
                  refine run_wanted (j := 13) (d := 31) (b := true) rfl rfl hz (of_decide_eq_true rfl) eg ?_
                  clear eg
                  have e0 : ac.eval (.tmp 2) = (.pointer (some ⟨w.heap.size, 0, none⟩)) := hf 2 rfl
                  clear hd hz hf hw
                  simp only [Oper.wp, execOp, resolve, List.map_toArray, List.map_cons, List.map_nil, Option.map_some, Option.map_none, e0]
                  go_simp
                  exact hK _ _ rfl (Same.refl _ _)
                · intro ac wc hs hd hz hf hw K hK
                  have eg : ac.eval (.tmp 31) = .bool true := hw 13 rfl
                  refine run_wanted (j := 13) (d := 31) (b := true) rfl rfl hz (of_decide_eq_true rfl) eg ?_
                  clear eg
                  have e0 : ac.eval (.tmp 37) = (.pointer (some ⟨w.heap.size, 1, none⟩)) := hw 19 rfl
                  have m0 : wc.cell? ⟨w.heap.size, 1, none⟩ = some (.slice (some adc) cols.length cc) := hs.cell (p := ⟨w.heap.size, 1, none⟩) trivial t1
                  clear hd hz hf hw
                  simp only [Oper.wp, execOp, resolve, List.map_toArray, List.map_cons, List.map_nil, Option.map_some, Option.map_none, e0]
                  go_simp
                  exact hK _ _ rfl (Same.refl _ _)
                · intro ac wc hs hd hz hf hw K hK
                  have eg : ac.eval (.tmp 31) = .bool true := hw 13 rfl
                  refine run_wanted (j := 13) (d := 31) (b := true) rfl rfl hz (of_decide_eq_true rfl) eg ?_
                  clear eg
                  have e0 : ac.eval (.tmp 5) = (.int .i64 j) := hf 5 rfl
                  clear hd hz hf hw
                  simp only [Oper.wp, execOp, resolve, List.map_toArray, List.map_cons, List.map_nil, Option.map_some, Option.map_none, e0]
                  go_simp
                  exact hK _ _ rfl (Same.refl _ _)
                · intro ac wc hs hd hz hf hw K hK
                  have eg : ac.eval (.tmp 31) = .bool true := hw 13 rfl
                  refine run_wanted (j := 13) (d := 31) (b := true) rfl rfl hz (of_decide_eq_true rfl) eg ?_
                  clear eg
                  have e0 : ac.eval (.tmp 38) = (.slice (some adc) cols.length cc) := hw 20 rfl
                  have e1 : ac.eval (.tmp 39) = (.int .i64 j) := hw 21 rfl
                  clear hd hz hf hw
                  simp only [Oper.wp, execOp, resolve, List.map_toArray, List.map_cons, List.map_nil, Option.map_some, Option.map_none, e0, e1]
                  go_simp
                  exact hK _ _ rfl (Same.refl _ _)
                · intro ac wc hs hd hz hf hw K hK
                  have eg : ac.eval (.tmp 31) = .bool true := hw 13 rfl
                  refine run_wanted (j := 13) (d := 31) (b := true) rfl rfl hz (of_decide_eq_true rfl) eg ?_
                  clear eg
                  have e0 : ac.eval (.tmp 40) = (.pointer (some (adc.add (j * 3)))) := hw 22 rfl
                  clear hd hz hf hw
                  simp only [Oper.wp, execOp, resolve, List.map_toArray, List.map_cons, List.map_nil, Option.map_some, Option.map_none, e0]
                  go_simp
                  exact hK _ _ rfl (Same.refl _ _)
                · intro ac wc hs hd hz hf hw K hK
                  have eg : ac.eval (.tmp 31) = .bool true := hw 13 rfl
                  refine run_wanted (j := 13) (d := 31) (b := true) rfl rfl hz (of_decide_eq_true rfl) eg ?_
                  clear eg
                  have e0 : ac.eval (.tmp 41) = (.pointer (some ⟨(adc.add (j * 3)).block, (adc.add (j * 3)).off + 1, none⟩)) := hw 23 rfl
                  have m0 : wc.cell? ⟨(adc.add (j * 3)).block, (adc.add (j * 3)).off + 1, none⟩ = some (.int .i64 k.kind) := hs.cell (p := ⟨(adc.add (j * 3)).block, (adc.add (j * 3)).off + 1, none⟩) trivial e1
                  clear hd hz hf hw
                  simp only [Oper.wp, execOp, resolve, List.map_toArray, List.map_cons, List.map_nil, Option.map_some, Option.map_none, e0]
                  go_simp
                  exact hK _ _ rfl (Same.refl _ _)
                · intro ac wc hs hd hz hf hw K hK
                  have eg : ac.eval (.tmp 31) = .bool true := hw 13 rfl
                  refine run_wanted (j := 13) (d := 31) (b := true) rfl rfl hz (of_decide_eq_true rfl) eg ?_
                  clear eg
                  have e0 : ac.eval (.tmp 36) = (.int .i64 x.kind) := hw 18 rfl
                  have e1 : ac.eval (.tmp 42) = (.int .i64 k.kind) := hw 24 rfl
                  clear hd hz hf hw
                  simp only [Oper.wp, execOp, resolve, List.map_toArray, List.map_cons, List.map_nil, Option.map_some, Option.map_none, e0, e1]
                  go_simp
                  exact hK _ _ rfl (Same.refl _ _)
                · intro ac wc hs hd hz hf hw K hK
                  have eg : ac.eval (.tmp 24) = .bool false := hw 6 rfl
                  refine run_wanted (j := 6) (d := 24) (b := false) rfl rfl hz (of_decide_eq_true rfl) eg ?_
                  clear eg
                  have e0 : ac.eval (.tmp 31) = (.bool true) := hw 13 rfl
                  have e1 : ac.eval (.tmp 43) = (.bool true) := hw 25 rfl
                  clear hd hz hf hw
                  simp only [Oper.wp, execOp, resolve, List.map_toArray, List.map_cons, List.map_nil, Option.map_some, Option.map_none, e0, e1]
                  go_simp
                  exact hK _ _ rfl (Same.refl _ _)
                · intro ac wc hs hd hz hf hw K hK
                  have e0 : ac.eval (.tmp 24) = (.bool false) := hw 6 rfl
                  have e1 : ac.eval (.tmp 44) = (.bool true) := hw 26 rfl
                  clear hd hz hf hw
                  simp only [Region.wanted, if_true, Oper.wp, execOp, resolve, List.map_toArray, List.map_cons, List.map_nil, Option.map_some, Option.map_none, e0, e1]
                  go_simp
                  exact hK _ _ rfl (Same.refl _ _)
              · intro wR hsR
                simp only [putAll, Act.put, List.setIfInBounds_toArray, List.set_cons_succ, List.set_cons_zero]
                have K : F = false := Hrel.out.trans (by rw [Hd.out, HE.out]; rfl)
                have HKK := Lib.hid K
                have HsR := Lib.hid hsR
                clear K hsR
                go_wp2
                go_ret
                exact ⟨by rw [HKK.out]; rfl, HS.out.trans (HSr.out.trans HsR.out)⟩
            · try simp only [Bool.not_false, Bool.not_true] at q1 q2
              refine wp_region_eq_lit (vs := [(.slice (some ad) row.length cr), (.int .i64 j), (.pointer (some (ad.add (j * 3)))), (valV x), (.bool true), (.bool false), (.bool false), (.slice (some ad) row.length cr), (.int .i64 j), (.pointer (some (ad.add (j * 3)))), (.pointer (some (ad.add (j * 3)))), (.int .i64 x.kind), (.bool true), (.bool true), (.slice (some ad) row.length cr), (.int .i64 j), (.pointer (some (ad.add (j * 3)))), (.pointer (some (ad.add (j * 3)))), (.int .i64 x.kind), (.pointer (some ⟨w.heap.size, 1, none⟩)), (.slice (some adc) cols.length cc), (.int .i64 j), (.pointer (some (adc.add (j * 3)))), (.pointer (some ⟨(adc.add (j * 3)).block, (adc.add (j * 3)).off + 1, none⟩)), (.int .i64 k.kind), (.bool false), (.bool false), (.bool false)]) (by kernel_rfl) (by kernel_rfl) rfl rfl ?_ ?_
              · refine ⟨?_, ?_, ?_, ?_, ?_, ?_, ?_, ?_, ?_, ?_, ?_, ?_, ?_, ?_, ?_, ?_, ?_, ?_, ?_, ?_, ?_, ?_, ?_, ?_, ?_, ?_, ?_, ?_, trivial⟩
                · intro ac wc hs hd hz hf hw K hK
                  have e0 : ac.eval (.tmp 1) = (.slice (some ad) row.length cr) := hf 1 rfl
                  clear hd hz hf hw
                  simp only [Region.wanted, if_true, Oper.wp, execOp, resolve, List.map_toArray, List.map_cons, List.map_nil, Option.map_some, Option.map_none, e0]
                  go_simp
                  exact hK _ _ rfl (Same.refl _ _)
                · intro ac wc hs hd hz hf hw K hK
                  have e0 : ac.eval (.tmp 5) = (.int .i64 j) := hf 5 rfl
                  clear hd hz hf hw
                  simp only [Region.wanted, if_true, Oper.wp, execOp, resolve, List.map_toArray, List.map_cons, List.map_nil, Option.map_some, Option.map_none, e0]
                  go_simp
                  exact hK _ _ rfl (Same.refl _ _)
                · intro ac wc hs hd hz hf hw K hK
                  have e0 : ac.eval (.tmp 18) = (.slice (some ad) row.length cr) := hw 0 rfl
                  have e1 : ac.eval (.tmp 19) = (.int .i64 j) := hw 1 rfl
                  clear hd hz hf hw
                  simp only [Region.wanted, if_true, Oper.wp, execOp, resolve, List.map_toArray, List.map_cons, List.map_nil, Option.map_some, Option.map_none, e0, e1]
                  go_simp
                  exact hK _ _ rfl (Same.refl _ _)
                · intro ac wc hs hd hz hf hw K hK
                  have e0 : ac.eval (.tmp 20) = (.pointer (some (ad.add (j * 3)))) := hw 2 rfl
                  have m0 : wc.cell? (ad.add (j * 3)) = some (.int .i64 x.kind) := hs.cell (p := (ad.add (j * 3))) trivial d0
                  have m1 : wc.cell? ⟨(ad.add (j * 3)).block, (ad.add (j * 3)).off + 1, none⟩ = some (.int .i64 x.n) := hs.cell (p := ⟨(ad.add (j * 3)).block, (ad.add (j * 3)).off + 1, none⟩) trivial d1
                  have m2 : wc.cell? ⟨(ad.add (j * 3)).block, (ad.add (j * 3)).off + 2, none⟩ = some (.string (str x.s)) := hs.cell (p := ⟨(ad.add (j * 3)).block, (ad.add (j * 3)).off + 2, none⟩) trivial d2
                  clear hd hz hf hw
                  simp only [Region.wanted, if_true, Oper.wp, execOp, resolve, List.map_toArray, List.map_cons, List.map_nil, Option.map_some, Option.map_none, e0]
                  go_simp
                  exact hK _ _ rfl (Same.refl _ _)
                · intro ac wc hs hd hz hf hw K hK
                  have e0 : ac.eval (.tmp 21) = (valV x) := hw 3 rfl
                  clear hd hz hf hw
                  simp only [Region.wanted, if_true, Oper.wp, execOp, resolve, List.map_toArray, List.map_cons, List.map_nil, Option.map_some, Option.map_none, e0]
                  go_simp
                  refine (gm _).mono ?_
                  rintro e wd ⟨rfl, hs2⟩
                  exact hK _ _ rfl hs2
                · intro ac wc hs hd hz hf hw K hK
                  have e0 : ac.eval (.tmp 22) = (.bool true) := hw 4 rfl
                  clear hd hz hf hw
                  simp only [Region.wanted, if_true, Oper.wp, execOp, resolve, List.map_toArray, List.map_cons, List.map_nil, Option.map_some, Option.map_none, e0]
                  go_simp
                  exact hK _ _ rfl (Same.refl _ _)
                · intro ac wc hs hd hz hf hw K hK
                  have e0 : ac.eval (.tmp 23) = (.bool false) := hw 5 rfl
                  clear hd hz hf hw
                  simp only [Region.wanted, if_true, Oper.wp, execOp, resolve, List.map_toArray, List.map_cons, List.map_nil, Option.map_some, Option.map_none, e0]
                  go_simp
                  exact hK _ _ rfl (Same.refl _ _)
                · intro ac wc hs hd hz hf hw K hK
                  have eg : ac.eval (.tmp 24) = .bool false := hw 6 rfl
                  refine run_wanted (j := 6) (d := 24) (b := false) rfl rfl hz (of_decide_eq_true rfl) eg ?_
                  clear eg
                  have e0 : ac.eval (.tmp 1) = (.slice (some ad) row.length cr) := hf 1 rfl
                  clear hd hz hf hw
                  simp only [Oper.wp, execOp, resolve, List.map_toArray, List.map_cons, List.map_nil, Option.map_some, Option.map_none, e0]
                  go_simp
                  exact hK _ _ rfl (Same.refl _ _)
                · intro ac wc hs hd hz hf hw K hK
                  have eg : ac.eval (.tmp 24) = .bool false := hw 6 rfl
                  refine run_wanted (j := 6) (d := 24) (b := false) rfl rfl hz (of_decide_eq_true rfl) eg ?_
                  clear eg
                  have e0 : ac.eval (.tmp 5) = (.int .i64 j) := hf 5 rfl
                  clear hd hz hf hw
                  simp only [Oper.wp, execOp, resolve, List.map_toArray, List.map_cons, List.map_nil, Option.map_some, Option.map_none, e0]
                  go_simp
                  exact hK _ _ rfl (Same.refl _ _)
                · intro ac wc hs hd hz hf hw K hK
                  have eg : ac.eval (.tmp 24) = .bool false := hw 6 rfl
                  refine run_wanted (j := 6) (d := 24) (b := false) rfl rfl hz (of_decide_eq_true rfl) eg ?_
                  clear eg
                  have e0 : ac.eval (.tmp 25) = (.slice (some ad) row.length cr) := hw 7 rfl
                  have e1 : ac.eval (.tmp 26) = (.int .i64 j) := hw 8 rfl
                  clear hd hz hf hw
                  simp only [Oper.wp, execOp, resolve, List.map_toArray, List.map_cons, List.map_nil, Option.map_some, Option.map_none, e0, e1]
                  go_simp
                  exact hK _ _ rfl (Same.refl _ _)
                · intro ac wc hs hd hz hf hw K hK
                  have eg : ac.eval (.tmp 24) = .bool false := hw 6 rfl
                  refine run_wanted (j := 6) (d := 24) (b := false) rfl rfl hz (of_decide_eq_true rfl) eg ?_
                  clear eg
                  have e0 : ac.eval (.tmp 27) = (.pointer (some (ad.add (j * 3)))) := hw 9 rfl
                  clear hd hz hf hw
                  simp only [Oper.wp, execOp, resolve, List.map_toArray, List.map_cons, List.map_nil, Option.map_some, Option.map_none, e0]
                  go_simp
                  exact hK _ _ rfl (Same.refl _ _)
                · intro ac wc hs hd hz hf hw K hK
                  have eg : ac.eval (.tmp 24) = .bool false := hw 6 rfl
                  refine run_wanted (j := 6) (d := 24) (b := false) rfl rfl hz (of_decide_eq_true rfl) eg ?_
                  clear eg
                  have e0 : ac.eval (.tmp 28) = (.pointer (some (ad.add (j * 3)))) := hw 10 rfl
                  have m0 : wc.cell? (ad.add (j * 3)) = some (.int .i64 x.kind) := hs.cell (p := (ad.add (j * 3))) trivial d0
                  clear hd hz hf hw
                  simp only [Oper.wp, execOp, resolve, List.map_toArray, List.map_cons, List.map_nil, Option.map_some, Option.map_none, e0]
                  go_simp
                  exact hK _ _ rfl (Same.refl _ _)
                · intro ac wc hs hd hz hf hw K hK
                  have eg : ac.eval (.tmp 24) = .bool false := hw 6 rfl
                  refine run_wanted (j := 6) (d := 24) (b := false) rfl rfl hz (of_decide_eq_true rfl) eg ?_
                  clear eg
                  have e0 : ac.eval (.tmp 29) = (.int .i64 x.kind) := hw 11 rfl
                  clear hd hz hf hw
                  simp only [Oper.wp, execOp, resolve, List.map_toArray, List.map_cons, List.map_nil, Option.map_some, Option.map_none, e0]
                  go_simp
                  exact hK _ _ rfl (Same.refl _ _)
                · intro ac wc hs hd hz hf hw K hK
                  have eg : ac.eval (.tmp 24) = .bool false := hw 6 rfl
                  refine run_wanted (j := 6) (d := 24) (b := false) rfl rfl hz (of_decide_eq_true rfl) eg ?_
                  clear eg
                  have e0 : ac.eval (.tmp 30) = (.bool true) := hw 12 rfl
                  clear hd hz hf hw
                  simp only [Oper.wp, execOp, resolve, List.map_toArray, List.map_cons, List.map_nil, Option.map_some, Option.map_none, e0]
                  go_simp
                  exact hK _ _ rfl (Same.refl _ _)
                · intro ac wc hs hd hz hf hw K hK
                  have eg : ac.eval (.tmp 31) = .bool true := hw 13 rfl
                  refine run_wanted (j := 13) (d := 31) (b := true) rfl rfl hz (of_decide_eq_true rfl) eg ?_
                  clear eg
                  have e0 : ac.eval (.tmp 1) = (.slice (some ad) row.length cr) := hf 1 rfl
                  clear hd hz hf hw
                  simp only [Oper.wp, execOp, resolve, List.map_toArray, List.map_cons, List.map_nil, Option.map_some, Option.map_none, e0]
                  go_simp
                  exact hK _ _ rfl (Same.refl _ _)
                · intro ac wc hs hd hz hf hw K hK
                  have eg : ac.eval (.tmp 31) = .bool true := hw 13 rfl
                  refine run_wanted (j := 13) (d := 31) (b := true) rfl rfl hz (of_decide_eq_true rfl) eg ?_
                  clear eg
                  have e0 : ac.eval (.tmp 5) = (.int .i64 j) := hf 5 rfl
                  clear hd hz hf hw
                  simp only [Oper.wp, execOp, resolve, List.map_toArray, List.map_cons, List.map_nil, Option.map_some, Option.map_none, e0]
                  go_simp
                  exact hK _ _ rfl (Same.refl _ _)
                · intro ac wc hs hd hz hf hw K hK
                  have eg : ac.eval (.tmp 31) = .bool true := hw 13 rfl
                  refine run_wanted (j := 13) (d := 31) (b := true) rfl rfl hz (of_decide_eq_true rfl) eg ?_
                  clear eg
                  have e0 : ac.eval (.tmp 32) = (.slice (some ad) row.length cr) := hw 14 rfl
                  have e1 : ac.eval (.tmp 33) = (.int .i64 j) := hw 15 rfl
                  clear hd hz hf hw
                  simp only [Oper.wp, execOp, resolve, List.map_toArray, List.map_cons, List.map_nil, Option.map_some, Option.map_none, e0, e1]
                  go_simp
                  exact hK _ _ rfl (Same.refl _ _)
                · intro ac wc hs hd hz hf hw K hK
                  have eg : ac.eval (.tmp 31) = .bool true := hw 13 rfl
                  refine run_wanted (j := 13) (d := 31) (b := true) rfl rfl hz (of_decide_eq_true rfl) eg ?_
                  clear eg
                  have e0 : ac.eval (.tmp 34) = (.pointer (some (ad.add (j * 3)))) := hw 16 rfl
                  clear hd hz hf hw
                  simp only [Oper.wp, execOp, resolve, List.map_toArray, List.map_cons, List.map_nil, Option.map_some, Option.map_none, e0]
                  go_simp
                  exact hK _ _ rfl (Same.refl _ _)
                · intro ac wc hs hd hz hf hw K hK
                  have eg : ac.eval (.tmp 31) = .bool true := hw 13 rfl
                  refine run_wanted (j := 13) (d := 31) (b := true) rfl rfl hz (of_decide_eq_true rfl) eg ?_
                  clear eg
                  have e0 : ac.eval (.tmp 35) = (.pointer (some (ad.add (j * 3)))) := hw 17 rfl
                  have m0 : wc.cell? (ad.add (j * 3)) = some (.int .i64 x.kind) := hs.cell (p := (ad.add (j * 3))) trivial d0
                  clear hd hz hf hw
                  simp only [Oper.wp, execOp, resolve, List.map_toArray, List.map_cons, List.map_nil, Option.map_some, Option.map_none, e0]
                  go_simp
                  exact hK _ _ rfl (Same.refl _ _)
                · intro ac wc hs hd hz hf hw K hK
                  have eg : ac.eval (.tmp 31) = .bool true := hw 13 rfl
                  refine run_wanted (j := 13) (d := 31) (b := true) rfl rfl hz (of_decide_eq_true rfl) eg ?_
                  clear eg
                  have e0 : ac.eval (.tmp 2) = (.pointer (some ⟨w.heap.size, 0, none⟩)) := hf 2 rfl
                  clear hd hz hf hw
                  simp only [Oper.wp, execOp, resolve, List.map_toArray, List.map_cons, List.map_nil, Option.map_some, Option.map_none, e0]
                  go_simp
                  exact hK _ _ rfl (Same.refl _ _)
                · intro ac wc hs hd hz hf hw K hK
                  have eg : ac.eval (.tmp 31) = .bool true := hw 13 rfl
                  refine run_wanted (j := 13) (d := 31) (b := true) rfl rfl hz (of_decide_eq_true rfl) eg ?_
                  clear eg
                  have e0 : ac.eval (.tmp 37) = (.pointer (some ⟨w.heap.size, 1, none⟩)) := hw 19 rfl
                  have m0 : wc.cell? ⟨w.heap.size, 1, none⟩ = some (.slice (some adc) cols.length cc) := hs.cell (p := ⟨w.heap.size, 1, none⟩) trivial t1
                  clear hd hz hf hw
                  simp only [Oper.wp, execOp, resolve, List.map_toArray, List.map_cons, List.map_nil, Option.map_some, Option.map_none, e0]
                  go_simp
                  exact hK _ _ rfl (Same.refl _ _)
                · intro ac wc hs hd hz hf hw K hK
                  have eg : ac.eval (.tmp 31) = .bool true := hw 13 rfl
                  refine run_wanted (j := 13) (d := 31) (b := true) rfl rfl hz (of_decide_eq_true rfl) eg ?_
                  clear eg
                  have e0 : ac.eval (.tmp 5) = (.int .i64 j) := hf 5 rfl
                  clear hd hz hf hw
                  simp only [Oper.wp, execOp, resolve, List.map_toArray, List.map_cons, List.map_nil, Option.map_some, Option.map_none, e0]
                  go_simp
                  exact hK _ _ rfl (Same.refl _ _)
                · intro ac wc hs hd hz hf hw K hK
                  have eg : ac.eval (.tmp 31) = .bool true := hw 13 rfl
                  refine run_wanted (j := 13) (d := 31) (b := true) rfl rfl hz (of_decide_eq_true rfl) eg ?_
                  clear eg
                  have e0 : ac.eval (.tmp 38) = (.slice (some adc) cols.length cc) := hw 20 rfl
                  have e1 : ac.eval (.tmp 39) = (.int .i64 j) := hw 21 rfl
                  clear hd hz hf hw
                  simp only [Oper.wp, execOp, resolve, List.map_toArray, List.map_cons, List.map_nil, Option.map_some, Option.map_none, e0, e1]
                  go_simp
                  exact hK _ _ rfl (Same.refl _ _)
                · intro ac wc hs hd hz hf hw K hK
                  have eg : ac.eval (.tmp 31) = .bool true := hw 13 rfl
                  refine run_wanted (j := 13) (d := 31) (b := true) rfl rfl hz (of_decide_eq_true rfl) eg ?_
                  clear eg
                  have e0 : ac.eval (.tmp 40) = (.pointer (some (adc.add (j * 3)))) := hw 22 rfl
                  clear hd hz hf hw
                  simp only [Oper.wp, execOp, resolve, List.map_toArray, List.map_cons, List.map_nil, Option.map_some, Option.map_none, e0]
                  go_simp
                  exact hK _ _ rfl (Same.refl _ _)
                · intro ac wc hs hd hz hf hw K hK
                  have eg : ac.eval (.tmp 31) = .bool true := hw 13 rfl
                  refine run_wanted (j := 13) (d := 31) (b := true) rfl rfl hz (of_decide_eq_true rfl) eg ?_
                  clear eg
                  have e0 : ac.eval (.tmp 41) = (.pointer (some ⟨(adc.add (j * 3)).block, (adc.add (j * 3)).off + 1, none⟩)) := hw 23 rfl
                  have m0 : wc.cell? ⟨(adc.add (j * 3)).block, (adc.add (j * 3)).off + 1, none⟩ = some (.int .i64 k.kind) := hs.cell (p := ⟨(adc.add (j * 3)).block, (adc.add (j * 3)).off + 1, none⟩) trivial e1
                  clear hd hz hf hw
                  simp only [Oper.wp, execOp, resolve, List.map_toArray, List.map_cons, List.map_nil, Option.map_some, Option.map_none, e0]
                  go_simp
                  exact hK _ _ rfl (Same.refl _ _)
                · intro ac wc hs hd hz hf hw K hK
                  have eg : ac.eval (.tmp 31) = .bool true := hw 13 rfl
                  refine run_wanted (j := 13) (d := 31) (b := true) rfl rfl hz (of_decide_eq_true rfl) eg ?_
                  clear eg
                  have e0 : ac.eval (.tmp 36) = (.int .i64 x.kind) := hw 18 rfl
                  have e1 : ac.eval (.tmp 42) = (.int .i64 k.kind) := hw 24 rfl
                  clear hd hz hf hw
                  simp only [Oper.wp, execOp, resolve, List.map_toArray, List.map_cons, List.map_nil, Option.map_some, Option.map_none, e0, e1]
                  go_simp
                  exact hK _ _ rfl (Same.refl _ _)
                · intro ac wc hs hd hz hf hw K hK
                  have eg : ac.eval (.tmp 24) = .bool false := hw 6 rfl
                  refine run_wanted (j := 6) (d := 24) (b := false) rfl rfl hz (of_decide_eq_true rfl) eg ?_
                  clear eg
                  have e0 : ac.eval (.tmp 31) = (.bool true) := hw 13 rfl
                  have e1 : ac.eval (.tmp 43) = (.bool false) := hw 25 rfl
                  clear hd hz hf hw
                  simp only [Oper.wp, execOp, resolve, List.map_toArray, List.map_cons, List.map_nil, Option.map_some, Option.map_none, e0, e1]
                  go_simp
                  exact hK _ _ rfl (Same.refl _ _)
                · intro ac wc hs hd hz hf hw K hK
                  have e0 : ac.eval (.tmp 24) = (.bool false) := hw 6 rfl
                  have e1 : ac.eval (.tmp 44) = (.bool false) := hw 26 rfl
                  clear hd hz hf hw
                  simp only [Region.wanted, if_true, Oper.wp, execOp, resolve, List.map_toArray, List.map_cons, List.map_nil, Option.map_some, Option.map_none, e0, e1]
                  go_simp
                  exact hK _ _ rfl (Same.refl _ _)
              · intro wR hsR
                simp only [putAll, Act.put, List.setIfInBounds_toArray, List.set_cons_succ, List.set_cons_zero]
                have K := Hrel.out.trans (by rw [Hd.out, HE.out])
                have HKK : Hid (F = ((row.zip cols).drop (j + 1)).all rowB) := Lib.hid (K.trans (by simp))
                have HsR := Lib.hid hsR
                clear K hsR
                go_wp2
                go_roundw
                case rel => exact ⟨j + 1, by omega, by go_num, HKK.out, HSr.out.trans HsR.out⟩
                case measure => simp [intOf]; omega
          · try simp only [Bool.not_false, Bool.not_true] at q1 q2
            refine wp_region_eq_lit (vs := [(.slice (some ad) row.length cr), (.int .i64 j), (.pointer (some (ad.add (j * 3)))), (valV x), (.bool true), (.bool false), (.bool false), (.slice (some ad) row.length cr), (.int .i64 j), (.pointer (some (ad.add (j * 3)))), (.pointer (some (ad.add (j * 3)))), (.int .i64 x.kind), (.bool false), (.bool false), undef, undef, undef, undef, undef, undef, undef, undef, undef, undef, undef, undef, (.bool false), (.bool false)]) (by kernel_rfl) (by kernel_rfl) rfl rfl ?_ ?_
            · refine ⟨?_, ?_, ?_, ?_, ?_, ?_, ?_, ?_, ?_, ?_, ?_, ?_, ?_, ?_, ?_, ?_, ?_, ?_, ?_, ?_, ?_, ?_, ?_, ?_, ?_, ?_, ?_, ?_, trivial⟩
              · intro ac wc hs hd hz hf hw K hK
                have e0 : ac.eval (.tmp 1) = (.slice (some ad) row.length cr) := hf 1 rfl
                clear hd hz hf hw
                simp only [Region.wanted, if_true, Oper.wp, execOp, resolve, List.map_toArray, List.map_cons, List.map_nil, Option.map_some, Option.map_none, e0]
                go_simp
                exact hK _ _ rfl (Same.refl _ _)
              · intro ac wc hs hd hz hf hw K hK
                have e0 : ac.eval (.tmp 5) = (.int .i64 j) := hf 5 rfl
                clear hd hz hf hw
                simp only [Region.wanted, if_true, Oper.wp, execOp, resolve, List.map_toArray, List.map_cons, List.map_nil, Option.map_some, Option.map_none, e0]
                go_simp
                exact hK _ _ rfl (Same.refl _ _)
              · intro ac wc hs hd hz hf hw K hK
                have e0 : ac.eval (.tmp 18) = (.slice (some ad) row.length cr) := hw 0 rfl
                have e1 : ac.eval (.tmp 19) = (.int .i64 j) := hw 1 rfl
                clear hd hz hf hw
                simp only [Region.wanted, if_true, Oper.wp, execOp, resolve, List.map_toArray, List.map_cons, List.map_nil, Option.map_some, Option.map_none, e0, e1]
                go_simp
                exact hK _ _ rfl (Same.refl _ _)
              · intro ac wc hs hd hz hf hw K hK
                have e0 : ac.eval (.tmp 20) = (.pointer (some (ad.add (j * 3)))) := hw 2 rfl
                have m0 : wc.cell? (ad.add (j * 3)) = some (.int .i64 x.kind) := hs.cell (p := (ad.add (j * 3))) trivial d0
                have m1 : wc.cell? ⟨(ad.add (j * 3)).block, (ad.add (j * 3)).off + 1, none⟩ = some (.int .i64 x.n) := hs.cell (p := ⟨(ad.add (j * 3)).block, (ad.add (j * 3)).off + 1, none⟩) trivial d1
                have m2 : wc.cell? ⟨(ad.add (j * 3)).block, (ad.add (j * 3)).off + 2, none⟩ = some (.string (str x.s)) := hs.cell (p := ⟨(ad.add (j * 3)).block, (ad.add (j * 3)).off + 2, none⟩) trivial d2
                clear hd hz hf hw
                simp only [Region.wanted, if_true, Oper.wp, execOp, resolve, List.map_toArray, List.map_cons, List.map_nil, Option.map_some, Option.map_none, e0]
                go_simp
                exact hK _ _ rfl (Same.refl _ _)
              · intro ac wc hs hd hz hf hw K hK
                have e0 : ac.eval (.tmp 21) = (valV x) := hw 3 rfl
                clear hd hz hf hw
                simp only [Region.wanted, if_true, Oper.wp, execOp, resolve, List.map_toArray, List.map_cons, List.map_nil, Option.map_some, Option.map_none, e0]
                go_simp
                refine (gm _).mono ?_
                rintro e wd ⟨rfl, hs2⟩
                exact hK _ _ rfl hs2
              · intro ac wc hs hd hz hf hw K hK
                have e0 : ac.eval (.tmp 22) = (.bool true) := hw 4 rfl
                clear hd hz hf hw
                simp only [Region.wanted, if_true, Oper.wp, execOp, resolve, List.map_toArray, List.map_cons, List.map_nil, Option.map_some, Option.map_none, e0]
                go_simp
                exact hK _ _ rfl (Same.refl _ _)
              · intro ac wc hs hd hz hf hw K hK
                have e0 : ac.eval (.tmp 23) = (.bool false) := hw 5 rfl
                clear hd hz hf hw
                simp only [Region.wanted, if_true, Oper.wp, execOp, resolve, List.map_toArray, List.map_cons, List.map_nil, Option.map_some, Option.map_none, e0]
                go_simp
                exact hK _ _ rfl (Same.refl _ _)
              · intro ac wc hs hd hz hf hw K hK
                have eg : ac.eval (.tmp 24) = .bool false := hw 6 rfl
                refine run_wanted (j := 6) (d := 24) (b := false) rfl rfl hz (of_decide_eq_true rfl) eg ?_
                clear eg
                have e0 : ac.eval (.tmp 1) = (.slice (some ad) row.length cr) := hf 1 rfl
                clear hd hz hf hw
                simp only [Oper.wp, execOp, resolve, List.map_toArray, List.map_cons, List.map_nil, Option.map_some, Option.map_none, e0]
                go_simp
                exact hK _ _ rfl (Same.refl _ _)
              · intro ac wc hs hd hz hf hw K hK
                have eg : ac.eval (.tmp 24) = .bool false := hw 6 rfl
                refine run_wanted (j := 6) (d := 24) (b := false) rfl rfl hz (of_decide_eq_true rfl) eg ?_
                clear eg
                have e0 : ac.eval (.tmp 5) = (.int .i64 j) := hf 5 rfl
                clear hd hz hf hw
                simp only [Oper.wp, execOp, resolve, List.map_toArray, List.map_cons, List.map_nil, Option.map_some, Option.map_none, e0]
                go_simp
                exact hK _ _ rfl (Same.refl _ _)
              · intro ac wc hs hd hz hf hw K hK
                have eg : ac.eval (.tmp 24) = .bool false := hw 6 rfl
                refine run_wanted (j := 6) (d := 24) (b := false) rfl rfl hz (of_decide_eq_true rfl) eg ?_
                clear eg
                have e0 : ac.eval (.tmp 25) = (.slice (some ad) row.length cr) := hw 7 rfl
                have e1 : ac.eval (.tmp 26) = (.int .i64 j) := hw 8 rfl
                clear hd hz hf hw
                simp only [Oper.wp, execOp, resolve, List.map_toArray, List.map_cons, List.map_nil, Option.map_some, Option.map_none, e0, e1]
                go_simp
                exact hK _ _ rfl (Same.refl _ _)
              · intro ac wc hs hd hz hf hw K hK
                have eg : ac.eval (.tmp 24) = .bool false := hw 6 rfl
                refine run_wanted (j := 6) (d := 24) (b := false) rfl rfl hz (of_decide_eq_true rfl) eg ?_
                clear eg
                have e0 : ac.eval (.tmp 27) = (.pointer (some (ad.add (j * 3)))) := hw 9 rfl
                clear hd hz hf hw
                simp only [Oper.wp, execOp, resolve, List.map_toArray, List.map_cons, List.map_nil, Option.map_some, Option.map_none, e0]
                go_simp
                exact hK _ _ rfl (Same.refl _ _)
              · intro ac wc hs hd hz hf hw K hK
                have eg : ac.eval (.tmp 24) = .bool false := hw 6 rfl
                refine run_wanted (j := 6) (d := 24) (b := false) rfl rfl hz (of_decide_eq_true rfl) eg ?_
                clear eg
                have e0 : ac.eval (.tmp 28) = (.pointer (some (ad.add (j * 3)))) := hw 10 rfl
                have m0 : wc.cell? (ad.add (j * 3)) = some (.int .i64 x.kind) := hs.cell (p := (ad.add (j * 3))) trivial d0
                clear hd hz hf hw
                simp only [Oper.wp, execOp, resolve, List.map_toArray, List.map_cons, List.map_nil, Option.map_some, Option.map_none, e0]
                go_simp
                exact hK _ _ rfl (Same.refl _ _)
              · intro ac wc hs hd hz hf hw K hK
                have eg : ac.eval (.tmp 24) = .bool false := hw 6 rfl
                refine run_wanted (j := 6) (d := 24) (b := false) rfl rfl hz (of_decide_eq_true rfl) eg ?_
                clear eg
                have e0 : ac.eval (.tmp 29) = (.int .i64 x.kind) := hw 11 rfl
                clear hd hz hf hw
                simp only [Oper.wp, execOp, resolve, List.map_toArray, List.map_cons, List.map_nil, Option.map_some, Option.map_none, e0]
                go_simp
                exact hK _ _ rfl (Same.refl _ _)
              · intro ac wc hs hd hz hf hw K hK
                have eg : ac.eval (.tmp 24) = .bool false := hw 6 rfl
                refine run_wanted (j := 6) (d := 24) (b := false) rfl rfl hz (of_decide_eq_true rfl) eg ?_
                clear eg
                have e0 : ac.eval (.tmp 30) = (.bool false) := hw 12 rfl
                clear hd hz hf hw
                simp only [Oper.wp, execOp, resolve, List.map_toArray, List.map_cons, List.map_nil, Option.map_some, Option.map_none, e0]
                go_simp
                exact hK _ _ rfl (Same.refl _ _)
              · intro ac wc hs hd hz hf hw K hK
                have eg : ac.eval (.tmp 31) = .bool false := hw 13 rfl
                refine skip_wanted (j := 13) (d := 31) (b := false) rfl rfl hz (of_decide_eq_true rfl) eg ?_
                clear eg
                exact hK _ _ rfl (Same.refl _ _)
              · intro ac wc hs hd hz hf hw K hK
                have eg : ac.eval (.tmp 31) = .bool false := hw 13 rfl
                refine skip_wanted (j := 13) (d := 31) (b := false) rfl rfl hz (of_decide_eq_true rfl) eg ?_
                clear eg
                exact hK _ _ rfl (Same.refl _ _)
              · intro ac wc hs hd hz hf hw K hK
                have eg : ac.eval (.tmp 31) = .bool false := hw 13 rfl
                refine skip_wanted (j := 13) (d := 31) (b := false) rfl rfl hz (of_decide_eq_true rfl) eg ?_
                clear eg
                exact hK _ _ rfl (Same.refl _ _)
              · intro ac wc hs hd hz hf hw K hK
                have eg : ac.eval (.tmp 31) = .bool false := hw 13 rfl
                refine skip_wanted (j := 13) (d := 31) (b := false) rfl rfl hz (of_decide_eq_true rfl) eg ?_
                clear eg
                exact hK _ _ rfl (Same.refl _ _)
              · intro ac wc hs hd hz hf hw K hK
                have eg : ac.eval (.tmp 31) = .bool false := hw 13 rfl
                refine skip_wanted (j := 13) (d := 31) (b := false) rfl rfl hz (of_decide_eq_true rfl) eg ?_
                clear eg
                exact hK _ _ rfl (Same.refl _ _)
              · intro ac wc hs hd hz hf hw K hK
                have eg : ac.eval (.tmp 31) = .bool false := hw 13 rfl
                refine skip_wanted (j := 13) (d := 31) (b := false) rfl rfl hz (of_decide_eq_true rfl) eg ?_
                clear eg
                exact hK _ _ rfl (Same.refl _ _)
              · intro ac wc hs hd hz hf hw K hK
                have eg : ac.eval (.tmp 31) = .bool false := hw 13 rfl
                refine skip_wanted (j := 13) (d := 31) (b := false) rfl rfl hz (of_decide_eq_true rfl) eg ?_
                clear eg
                exact hK _ _ rfl (Same.refl _ _)
              · intro ac wc hs hd hz hf hw K hK
                have eg : ac.eval (.tmp 31) = .bool false := hw 13 rfl
                refine skip_wanted (j := 13) (d := 31) (b := false) rfl rfl hz (of_decide_eq_true rfl) eg ?_
                clear eg
                exact hK _ _ rfl (Same.refl _ _)
              · intro ac wc hs hd hz hf hw K hK
                have eg : ac.eval (.tmp 31) = .bool false := hw 13 rfl
                refine skip_wanted (j := 13) (d := 31) (b := false) rfl rfl hz (of_decide_eq_true rfl) eg ?_
                clear eg
                exact hK _ _ rfl (Same.refl _ _)
              · intro ac wc hs hd hz hf hw K hK
                have eg : ac.eval (.tmp 31) = .bool false := hw 13 rfl
                refine skip_wanted (j := 13) (d := 31) (b := false) rfl rfl hz (of_decide_eq_true rfl) eg ?_
                clear eg
                exact hK _ _ rfl (Same.refl _ _)
              · intro ac wc hs hd hz hf hw K hK
                have eg : ac.eval (.tmp 31) = .bool false := hw 13 rfl
                refine skip_wanted (j := 13) (d := 31) (b := false) rfl rfl hz (of_decide_eq_true rfl) eg ?_
                clear eg
                exact hK _ _ rfl (Same.refl _ _)
              · intro ac wc hs hd hz hf hw K hK
                have eg : ac.eval (.tmp 31) = .bool false := hw 13 rfl
                refine skip_wanted (j := 13) (d := 31) (b := false) rfl rfl hz (of_decide_eq_true rfl) eg ?_
                clear eg
                exact hK _ _ rfl (Same.refl _ _)
              · intro ac wc hs hd hz hf hw K hK
                have eg : ac.eval (.tmp 24) = .bool false := hw 6 rfl
                refine run_wanted (j := 6) (d := 24) (b := false) rfl rfl hz (of_decide_eq_true rfl) eg ?_
                clear eg
                have e0 : ac.eval (.tmp 31) = (.bool false) := hw 13 rfl
                have e1 : ac.eval (.tmp 43) = undef := hw 25 rfl
                clear hd hz hf hw
                simp only [Oper.wp, execOp, resolve, List.map_toArray, List.map_cons, List.map_nil, Option.map_some, Option.map_none, e0, e1]
                go_simp
                exact hK _ _ rfl (Same.refl _ _)
              · intro ac wc hs hd hz hf hw K hK
                have e0 : ac.eval (.tmp 24) = (.bool false) := hw 6 rfl
                have e1 : ac.eval (.tmp 44) = (.bool false) := hw 26 rfl
                clear hd hz hf hw
                simp only [Region.wanted, if_true, Oper.wp, execOp, resolve, List.map_toArray, List.map_cons, List.map_nil, Option.map_some, Option.map_none, e0, e1]
                go_simp
                exact hK _ _ rfl (Same.refl _ _)
            · intro wR hsR
              simp only [putAll, Act.put, List.setIfInBounds_toArray, List.set_cons_succ, List.set_cons_zero]
              have K := Hrel.out.trans (by rw [Hd.out, HE.out])
              have HKK : Hid (F = ((row.zip cols).drop (j + 1)).all rowB) := Lib.hid (K.trans (by simp))
              have HsR := Lib.hid hsR
              clear K hsR
              go_wp2
              go_roundw
              case rel => exact ⟨j + 1, by omega, by go_num, HKK.out, HSr.out.trans HsR.out⟩
              case measure => simp [intOf]; omega
      · obtain rfl : j = row.length := by omega
        have K : F = true := Hrel.out.trans (by rw [List.drop_of_length_le (by simp; omega)]; rfl)
        have HKK := Lib.hid K
        clear K hS
        go_wp2
        go_ret
        exact ⟨by rw [HKK.out]; rfl, HS.out.trans HSr.out⟩
  · have b5 : ((row.length : Int) != (cols.length : Int)) = true := by simp; omega
    have b6 : (row.length != cols.length) = true := by simpa using hrl
    have K : F = false := HF.out.symm.trans (by unfold mayRowB; simp [hrl])
    have HKK := Lib.hid K
    clear K hrl
    go_wp2
    go_ret
    exact ⟨by rw [HKK.out]; rfl, by have e9 := HS.out; rw [HW0.out, HTC.out] at e9; exact e9⟩
end Go.Proofs.Ytakbikibahhepaa
