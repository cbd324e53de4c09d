/-
  One of the longer walks of mvcc (written by bundle.py out of: MvA3). No condition.
-/
import Derived.Test.YtoldelocfmpccaaQ13
import Derived.Deep.CutRange
set_option linter.unusedSimpArgs false
set_option linter.unusedVariables false
namespace Go.Proofs.Ytoldelocfmpccaa
open Go.RowKit

set_option maxRecDepth 100000 in
set_option maxHeartbeats 8000000 in
theorem mvmay_any (v : Value) (cs : List Cel) (S : Nat → Prop) (w : World) (hv : CelR w S v cs) (hg : Good cs) (hn : cs.length ≤ 100000) (hn2 : ∀ c ∈ cs, c.vers.length ≤ 1000000) :
    Calls Try.prog 31 #[v] w fun e w' => e = .returned (.bool true) ∧ Same (fun _ => True) w w' := by
  obtain ⟨A, cp, rfl, hc, hm⟩ := hv.form
  have Hv := Lib.hid hv
  have Hn2 := Lib.hid hn2
  unfold maxLen at hm
  clear hv hn2
  go_enter Try.func31, Try.ntmps31
  go_wp2
  go_loopw [3, 4, 5, 6, 9, 63] (fun _ _ _ _ i _ wr => ∃ k : Nat, i = .int .i64 k ∧ k ≤ cs.length ∧ Same (fun _ => True) w wr) (fun _ _ _ _ i _ _ => cs.length - (intOf i).toNat)
  case atStart => exact ⟨0, rfl, Nat.zero_le _, Same.refl _ _⟩
  case round =>
    obtain ⟨k, rfl, hk, hS⟩ := hrel
    obtain ⟨wo, rfl⟩ : ∃ wo : World, wo = wr := ⟨_, rfl⟩
    have HS := Lib.hid hS
    by_cases hlt : k < cs.length
    · obtain ⟨ad, u, rfl, -, hvr, c0, c1, c2, c3, c4, c5, c6, c7, c8, c9, c10, c11⟩ := CelR.cells12 (Hv.out.keepAll hS) hlt
      obtain ⟨Au, cu, rfl, hq1, hq2⟩ := hvr.form
      unfold maxLen at hq2
      have x1 : (0 : Int) ≤ (k : Int) := by omega
      have x2 : (k : Int) < (cs.length : Int) := by omega
      have hab := World.block_lt_of_cell? wo _ c0
      have hcl := Hn2.out cs[k] (List.getElem_mem hlt)
      clear hS
      rcases k with _ | i
      · simp only [Nat.zero_mul, add_zero] at c0 c1 c2 c3 c4 c5 c6 c7 c8 c9 c10 c11 hab
        have hgc := hg.each cs[0] (List.getElem_mem hlt)
        obtain ⟨c, hck⟩ : ∃ c, c = cs[0] := ⟨_, rfl⟩
        rw [← hck] at c0 c1 c2 c3 c4 c5 c6 c7 c8 c9 c10 c11 hvr hcl hgc hq1
        have Hgc := Lib.hid hgc
        have Hvr := Lib.hid hvr
        clear hvr hck
        go_wp2
        have r1 := Row.new wo 64 [.string (str c.key), .slice Au c.vers.length cu, .bool c.locked, .int .i64 c.lock.by_.node, .int .i64 c.lock.by_.life, .int .i64 c.lock.by_.seq, .int .i64 c.lock.by_.attempt, .int .i64 c.lock.home, .int .i64 c.lock.at_.wall, .int .i64 c.lock.at_.tie, .bool c.lock.drop, .string (str c.lock.data)]
        have hS7 := (Same.refl (fun _ => True) wo).alloc (.cells ([.string (str c.key), .slice Au c.vers.length cu, .bool c.locked, .int .i64 c.lock.by_.node, .int .i64 c.lock.by_.life, .int .i64 c.lock.by_.seq, .int .i64 c.lock.by_.attempt, .int .i64 c.lock.home, .int .i64 c.lock.at_.wall, .int .i64 c.lock.at_.tie, .bool c.lock.drop, .string (str c.lock.data)] : List Value).toArray 64)
        clear c0 c1 c2 c3 c4 c5 c6 c7 c8 c9 c10 c11
        revert r1 hS7
        generalize wo.alloc (.cells _ 64) = W7
        intro r1 hS7
        obtain ⟨a0, a1, a2, a3, a4, a5, a6, a7, a8, a9, a10, a11, -⟩ := cel_cells r1
        have HS7 := Lib.hid hS7
        have Hbox7 := Lib.hid r1
        clear r1 hS7
        go_cut [9, 59] from 9 to 93 (fun i9 c59 wx => i9 = .int .i64 0 ∧ c59 = .bool false ∧ ∃ nq, wx = W7.drewN nq)
        case first =>
          have MEET : True := trivial
          cases hl : c.locked
          · have hz := hgc.free hl
            have h0 : (0 : Int) < (c.vers.length : Int) := by
              have := hgc.kept
              unfold keptB at this
              rw [hl] at this
              simp at this
              have := List.length_pos_iff.2 this
              omega
            have h1 : ((c.vers.length : Int) == 0) = false := by simp; intro e; rw [e] at h0; simp at h0
            rw [hl] at a2
            rw [hz] at a3 a4 a5 a6 a7 a8 a9 a10 a11
            simp only [Lck.zero] at a3 a4 a5 a6 a7 a8 a9 a10 a11
            have a11x : W7.cell? ⟨wo.heap.size, 11, none⟩ = some (.string ⟨#[]⟩) := a11
            clear hgc hl hz a11
            go_quiet (fail)
            rename_i nq
            go_wp2
            go_meet
            exact ⟨rfl, rfl, nq, rfl⟩
          · rw [hl] at a2
            cases hd : c.lock.drop
            · rw [hd] at a10
              clear hgc hl hd
              go_quiet (fail)
              rename_i nq
              go_wp2
              go_meet
              exact ⟨rfl, rfl, nq, rfl⟩
            · rw [hd] at a10
              rw [hgc.lock hd] at a11
              have a11x : W7.cell? ⟨wo.heap.size, 11, none⟩ = some (.string ⟨#[]⟩) := a11
              clear hgc hl hd a11
              go_quiet (fail)
              rename_i nq
              go_wp2
              go_meet
              exact ⟨rfl, rfl, nq, rfl⟩
        case rest =>
          obtain ⟨rfl, rfl, nq, rfl⟩ := hcut
          have hS8 := HS7.out.drewN nq
          have hbox8 := Hbox7.out.keep ((Same.refl (fun _ => True) W7).drewN nq) trivial
          generalize W7.drewN nq = W8 at *
          have a1 : W8.cell? ⟨wo.heap.size, 1, none⟩ = some (.slice Au c.vers.length cu) := hbox8.cell 1
          have HS8 := Lib.hid hS8
          have Hbox8 := Lib.hid hbox8
          clear hS8 hbox8 a0 a2 a3 a4 a5 a6 a7 a8 a9 a10 a11
          go_wp2
          go_loopw [5, 6, 63] (fun _ _ i wi => ∃ j : Nat, i = .int .i64 j ∧ j ≤ c.vers.length ∧ Same (fun _ => True) W8 wi) (fun _ _ i _ => c.vers.length - (intOf i).toNat)
          case atStart => exact ⟨0, rfl, Nat.zero_le _, Same.refl _ _⟩
          case round =>
            obtain ⟨j, rfl, hj, hSi⟩ := hrel
            have HSi := Lib.hid hSi
            have a1 : wr.cell? ⟨wo.heap.size, 1, none⟩ = some (.slice Au c.vers.length cu) := (Hbox8.out.keep hSi trivial).cell 1
            have z7 := (Hbox8.out.keep hSi trivial).lt
            clear hSi
            by_cases hjl : j < c.vers.length
            · rcases j with _ | i2
              · obtain ⟨ad2, rfl, -, d0, d1, d2, d3⟩ := VerR.cells (RowR.keepAll Hvr.out (HS8.out.trans HSi.out)) hjl
                have hvd := Hgc.out.vers c.vers[0] (List.getElem_mem hjl)
                have x3 : (0 : Int) ≤ ((0 : Nat) : Int) := by omega
                have x4 : ((0 : Nat) : Int) < (c.vers.length : Int) := by omega
                simp only [Nat.zero_mul, add_zero] at d0 d1 d2 d3
                have hab2 := World.block_lt_of_cell? wr _ d0
                go_wp2
                obtain ⟨Y, hY⟩ : ∃ Y, Y = c.vers[0] := ⟨_, rfl⟩
                have rv := Row.new wr 69 (verCs c.vers[0])
                have hS9 := (Same.refl (fun _ => True) wr).alloc (.cells (verCs c.vers[0]).toArray 69)
                simp only [verCs] at rv hS9
                clear d0 d1 d2 d3 hab2
                revert rv hS9
                generalize wr.alloc (.cells _ 69) = W9
                intro rv hS9
                have b0 : W9.cell? ⟨wr.heap.size, 0, none⟩ = some (.int .i64 c.vers[0].at_.wall) := rv.cell 0
                have b1 : W9.cell? ⟨wr.heap.size, 1, none⟩ = some (.int .i64 c.vers[0].at_.tie) := rv.cell 1
                have b2 : W9.cell? ⟨wr.heap.size, 2, none⟩ = some (.bool c.vers[0].drop) := rv.cell 2
                have b3 : W9.cell? ⟨wr.heap.size, 3, none⟩ = some (.string (str c.vers[0].data)) := rv.cell 3
                have z9 := rv.lt
                have a1 : W9.cell? ⟨wo.heap.size, 1, none⟩ = some (.slice (some ad2) c.vers.length cu) := hS9.cell (p := ⟨wo.heap.size, 1, none⟩) trivial a1
                have HS9 := Lib.hid hS9
                clear rv hS9 hY
                generalize c.vers[0] = y at *
                cases hdr : y.drop
                · rw [hdr] at b2
                  clear hvd hdr
                  go_wp2
                  refine wp_region_eq_lit (vs := [(.int .i64 0), (.bool false), (.bool false), undef, undef, undef, undef, undef, undef, undef, undef, undef, undef, undef, (.bool false), (.bool false), (.pointer (some ⟨wr.heap.size, 2, none⟩)), (.bool false), (.bool false), undef, undef, undef, (.bool false), (.bool false)]) (by kernel_rfl) (by kernel_rfl) rfl rfl ?_ ?_
                  · refine ⟨?_, ?_, ?_, ?_, ?_, ?_, ?_, ?_, ?_, ?_, ?_, ?_, ?_, ?_, ?_, ?_, ?_, ?_, ?_, ?_, ?_, ?_, ?_, ?_, trivial⟩
                    · intro ac wc hs hd hz hf hw K hK
                      have e0 : ac.eval (.tmp 5) = (.int .i64 0) := hf 5 rfl
                      clear hd hz hf hw
                      simp only [Region.wanted, if_true, Oper.wp, execOp, resolve, List.map_toArray, List.map_cons, List.map_nil, Option.map_some, Option.map_none, e0]
                      go_simp
                      exact hK _ _ rfl (Same.refl _ _)
                    · intro ac wc hs hd hz hf hw K hK
                      have e0 : ac.eval (.tmp 68) = (.int .i64 0) := hw 0 rfl
                      clear hd hz hf hw
                      simp only [Region.wanted, if_true, Oper.wp, execOp, resolve, List.map_toArray, List.map_cons, List.map_nil, Option.map_some, Option.map_none, e0]
                      go_simp
                      exact hK _ _ rfl (Same.refl _ _)
                    · intro ac wc hs hd hz hf hw K hK
                      have e0 : ac.eval (.tmp 69) = (.bool false) := hw 1 rfl
                      clear hd hz hf hw
                      simp only [Region.wanted, if_true, Oper.wp, execOp, resolve, List.map_toArray, List.map_cons, List.map_nil, Option.map_some, Option.map_none, e0]
                      go_simp
                      exact hK _ _ rfl (Same.refl _ _)
                    · intro ac wc hs hd hz hf hw K hK
                      have eg : ac.eval (.tmp 70) = .bool false := hw 2 rfl
                      refine skip_wanted (j := 2) (d := 70) (b := false) rfl rfl hz (of_decide_eq_true rfl) eg ?_
                      clear eg
                      exact hK _ _ rfl (Same.refl _ _)
                    · intro ac wc hs hd hz hf hw K hK
                      have eg : ac.eval (.tmp 70) = .bool false := hw 2 rfl
                      refine skip_wanted (j := 2) (d := 70) (b := false) rfl rfl hz (of_decide_eq_true rfl) eg ?_
                      clear eg
                      exact hK _ _ rfl (Same.refl _ _)
                    · intro ac wc hs hd hz hf hw K hK
                      have eg : ac.eval (.tmp 70) = .bool false := hw 2 rfl
                      refine skip_wanted (j := 2) (d := 70) (b := false) rfl rfl hz (of_decide_eq_true rfl) eg ?_
                      clear eg
                      exact hK _ _ rfl (Same.refl _ _)
                    · intro ac wc hs hd hz hf hw K hK
                      have eg : ac.eval (.tmp 70) = .bool false := hw 2 rfl
                      refine skip_wanted (j := 2) (d := 70) (b := false) rfl rfl hz (of_decide_eq_true rfl) eg ?_
                      clear eg
                      exact hK _ _ rfl (Same.refl _ _)
                    · intro ac wc hs hd hz hf hw K hK
                      have eg : ac.eval (.tmp 70) = .bool false := hw 2 rfl
                      refine skip_wanted (j := 2) (d := 70) (b := false) rfl rfl hz (of_decide_eq_true rfl) eg ?_
                      clear eg
                      exact hK _ _ rfl (Same.refl _ _)
                    · intro ac wc hs hd hz hf hw K hK
                      have eg : ac.eval (.tmp 70) = .bool false := hw 2 rfl
                      refine skip_wanted (j := 2) (d := 70) (b := false) rfl rfl hz (of_decide_eq_true rfl) eg ?_
                      clear eg
                      exact hK _ _ rfl (Same.refl _ _)
                    · intro ac wc hs hd hz hf hw K hK
                      have eg : ac.eval (.tmp 70) = .bool false := hw 2 rfl
                      refine skip_wanted (j := 2) (d := 70) (b := false) rfl rfl hz (of_decide_eq_true rfl) eg ?_
                      clear eg
                      exact hK _ _ rfl (Same.refl _ _)
                    · intro ac wc hs hd hz hf hw K hK
                      have eg : ac.eval (.tmp 70) = .bool false := hw 2 rfl
                      refine skip_wanted (j := 2) (d := 70) (b := false) rfl rfl hz (of_decide_eq_true rfl) eg ?_
                      clear eg
                      exact hK _ _ rfl (Same.refl _ _)
                    · intro ac wc hs hd hz hf hw K hK
                      have eg : ac.eval (.tmp 70) = .bool false := hw 2 rfl
                      refine skip_wanted (j := 2) (d := 70) (b := false) rfl rfl hz (of_decide_eq_true rfl) eg ?_
                      clear eg
                      exact hK _ _ rfl (Same.refl _ _)
                    · intro ac wc hs hd hz hf hw K hK
                      have eg : ac.eval (.tmp 70) = .bool false := hw 2 rfl
                      refine skip_wanted (j := 2) (d := 70) (b := false) rfl rfl hz (of_decide_eq_true rfl) eg ?_
                      clear eg
                      exact hK _ _ rfl (Same.refl _ _)
                    · intro ac wc hs hd hz hf hw K hK
                      have eg : ac.eval (.tmp 70) = .bool false := hw 2 rfl
                      refine skip_wanted (j := 2) (d := 70) (b := false) rfl rfl hz (of_decide_eq_true rfl) eg ?_
                      clear eg
                      exact hK _ _ rfl (Same.refl _ _)
                    · intro ac wc hs hd hz hf hw K hK
                      have e0 : ac.eval (.tmp 70) = (.bool false) := hw 2 rfl
                      have e1 : ac.eval (.tmp 81) = undef := hw 13 rfl
                      clear hd hz hf hw
                      simp only [Region.wanted, if_true, Oper.wp, execOp, resolve, List.map_toArray, List.map_cons, List.map_nil, Option.map_some, Option.map_none, e0, e1]
                      go_simp
                      exact hK _ _ rfl (Same.refl _ _)
                    · intro ac wc hs hd hz hf hw K hK
                      have e0 : ac.eval (.tmp 82) = (.bool false) := hw 14 rfl
                      clear hd hz hf hw
                      simp only [Region.wanted, if_true, Oper.wp, execOp, resolve, List.map_toArray, List.map_cons, List.map_nil, Option.map_some, Option.map_none, e0]
                      go_simp
                      exact hK _ _ rfl (Same.refl _ _)
                    · intro ac wc hs hd hz hf hw K hK
                      have eg : ac.eval (.tmp 83) = .bool false := hw 15 rfl
                      refine run_wanted (j := 15) (d := 83) (b := false) rfl rfl hz (of_decide_eq_true rfl) eg ?_
                      clear eg
                      have e0 : ac.eval (.tmp 6) = (.pointer (some ⟨wr.heap.size, 0, none⟩)) := hf 6 rfl
                      clear hd hz hf hw
                      simp only [Oper.wp, execOp, resolve, List.map_toArray, List.map_cons, List.map_nil, Option.map_some, Option.map_none, e0]
                      go_simp
                      exact hK _ _ rfl (Same.refl _ _)
                    · intro ac wc hs hd hz hf hw K hK
                      have eg : ac.eval (.tmp 83) = .bool false := hw 15 rfl
                      refine run_wanted (j := 15) (d := 83) (b := false) rfl rfl hz (of_decide_eq_true rfl) eg ?_
                      clear eg
                      have e0 : ac.eval (.tmp 84) = (.pointer (some ⟨wr.heap.size, 2, none⟩)) := hw 16 rfl
                      have m0 : wc.cell? ⟨wr.heap.size, 2, none⟩ = some (.bool false) := hs.cell (p := ⟨wr.heap.size, 2, none⟩) trivial b2
                      clear hd hz hf hw
                      simp only [Oper.wp, execOp, resolve, List.map_toArray, List.map_cons, List.map_nil, Option.map_some, Option.map_none, e0]
                      go_simp
                      exact hK _ _ rfl (Same.refl _ _)
                    · intro ac wc hs hd hz hf hw K hK
                      have eg : ac.eval (.tmp 83) = .bool false := hw 15 rfl
                      refine run_wanted (j := 15) (d := 83) (b := false) rfl rfl hz (of_decide_eq_true rfl) eg ?_
                      clear eg
                      have e0 : ac.eval (.tmp 85) = (.bool false) := hw 17 rfl
                      clear hd hz hf hw
                      simp only [Oper.wp, execOp, resolve, List.map_toArray, List.map_cons, List.map_nil, Option.map_some, Option.map_none, e0]
                      go_simp
                      exact hK _ _ rfl (Same.refl _ _)
                    · intro ac wc hs hd hz hf hw K hK
                      have eg : ac.eval (.tmp 86) = .bool false := hw 18 rfl
                      refine skip_wanted (j := 18) (d := 86) (b := false) rfl rfl hz (of_decide_eq_true rfl) eg ?_
                      clear eg
                      exact hK _ _ rfl (Same.refl _ _)
                    · intro ac wc hs hd hz hf hw K hK
                      have eg : ac.eval (.tmp 86) = .bool false := hw 18 rfl
                      refine skip_wanted (j := 18) (d := 86) (b := false) rfl rfl hz (of_decide_eq_true rfl) eg ?_
                      clear eg
                      exact hK _ _ rfl (Same.refl _ _)
                    · intro ac wc hs hd hz hf hw K hK
                      have eg : ac.eval (.tmp 86) = .bool false := hw 18 rfl
                      refine skip_wanted (j := 18) (d := 86) (b := false) rfl rfl hz (of_decide_eq_true rfl) eg ?_
                      clear eg
                      exact hK _ _ rfl (Same.refl _ _)
                    · intro ac wc hs hd hz hf hw K hK
                      have eg : ac.eval (.tmp 83) = .bool false := hw 15 rfl
                      refine run_wanted (j := 15) (d := 83) (b := false) rfl rfl hz (of_decide_eq_true rfl) eg ?_
                      clear eg
                      have e0 : ac.eval (.tmp 86) = (.bool false) := hw 18 rfl
                      have e1 : ac.eval (.tmp 89) = undef := hw 21 rfl
                      clear hd hz hf hw
                      simp only [Oper.wp, execOp, resolve, List.map_toArray, List.map_cons, List.map_nil, Option.map_some, Option.map_none, e0, e1]
                      go_simp
                      exact hK _ _ rfl (Same.refl _ _)
                    · intro ac wc hs hd hz hf hw K hK
                      have e0 : ac.eval (.tmp 83) = (.bool false) := hw 15 rfl
                      have e1 : ac.eval (.tmp 90) = (.bool false) := hw 22 rfl
                      clear hd hz hf hw
                      simp only [Region.wanted, if_true, Oper.wp, execOp, resolve, List.map_toArray, List.map_cons, List.map_nil, Option.map_some, Option.map_none, e0, e1]
                      go_simp
                      exact hK _ _ rfl (Same.refl _ _)
                  · intro wR hsR
                    simp only [putAll, Act.put, List.setIfInBounds_toArray, List.set_cons_succ, List.set_cons_zero]
                    go_wp2
                    go_roundw
                    case rel => exact ⟨1, by go_num, by omega, (HSi.out.trans HS9.out).trans hsR⟩
                    case measure => simp [intOf]; omega
                · rw [hdr] at b2
                  rw [hvd hdr] at b3
                  have b3 : W9.cell? ⟨wr.heap.size, 3, none⟩ = some (.string ⟨#[]⟩) := b3
                  clear hvd hdr
                  go_wp2
                  refine wp_region_eq_lit (vs := [(.int .i64 0), (.bool false), (.bool false), undef, undef, undef, undef, undef, undef, undef, undef, undef, undef, undef, (.bool false), (.bool false), (.pointer (some ⟨wr.heap.size, 2, none⟩)), (.bool true), (.bool true), (.pointer (some ⟨wr.heap.size, 3, none⟩)), (.string ⟨#[]⟩), (.bool false), (.bool false), (.bool false)]) (by kernel_rfl) (by kernel_rfl) rfl rfl ?_ ?_
                  · refine ⟨?_, ?_, ?_, ?_, ?_, ?_, ?_, ?_, ?_, ?_, ?_, ?_, ?_, ?_, ?_, ?_, ?_, ?_, ?_, ?_, ?_, ?_, ?_, ?_, trivial⟩
                    · intro ac wc hs hd hz hf hw K hK
                      have e0 : ac.eval (.tmp 5) = (.int .i64 0) := hf 5 rfl
                      clear hd hz hf hw
                      simp only [Region.wanted, if_true, Oper.wp, execOp, resolve, List.map_toArray, List.map_cons, List.map_nil, Option.map_some, Option.map_none, e0]
                      go_simp
                      exact hK _ _ rfl (Same.refl _ _)
                    · intro ac wc hs hd hz hf hw K hK
                      have e0 : ac.eval (.tmp 68) = (.int .i64 0) := hw 0 rfl
                      clear hd hz hf hw
                      simp only [Region.wanted, if_true, Oper.wp, execOp, resolve, List.map_toArray, List.map_cons, List.map_nil, Option.map_some, Option.map_none, e0]
                      go_simp
                      exact hK _ _ rfl (Same.refl _ _)
                    · intro ac wc hs hd hz hf hw K hK
                      have e0 : ac.eval (.tmp 69) = (.bool false) := hw 1 rfl
                      clear hd hz hf hw
                      simp only [Region.wanted, if_true, Oper.wp, execOp, resolve, List.map_toArray, List.map_cons, List.map_nil, Option.map_some, Option.map_none, e0]
                      go_simp
                      exact hK _ _ rfl (Same.refl _ _)
                    · intro ac wc hs hd hz hf hw K hK
                      have eg : ac.eval (.tmp 70) = .bool false := hw 2 rfl
                      refine skip_wanted (j := 2) (d := 70) (b := false) rfl rfl hz (of_decide_eq_true rfl) eg ?_
                      clear eg
                      exact hK _ _ rfl (Same.refl _ _)
                    · intro ac wc hs hd hz hf hw K hK
                      have eg : ac.eval (.tmp 70) = .bool false := hw 2 rfl
                      refine skip_wanted (j := 2) (d := 70) (b := false) rfl rfl hz (of_decide_eq_true rfl) eg ?_
                      clear eg
                      exact hK _ _ rfl (Same.refl _ _)
                    · intro ac wc hs hd hz hf hw K hK
                      have eg : ac.eval (.tmp 70) = .bool false := hw 2 rfl
                      refine skip_wanted (j := 2) (d := 70) (b := false) rfl rfl hz (of_decide_eq_true rfl) eg ?_
                      clear eg
                      exact hK _ _ rfl (Same.refl _ _)
                    · intro ac wc hs hd hz hf hw K hK
                      have eg : ac.eval (.tmp 70) = .bool false := hw 2 rfl
                      refine skip_wanted (j := 2) (d := 70) (b := false) rfl rfl hz (of_decide_eq_true rfl) eg ?_
                      clear eg
                      exact hK _ _ rfl (Same.refl _ _)
                    · intro ac wc hs hd hz hf hw K hK
                      have eg : ac.eval (.tmp 70) = .bool false := hw 2 rfl
                      refine skip_wanted (j := 2) (d := 70) (b := false) rfl rfl hz (of_decide_eq_true rfl) eg ?_
                      clear eg
                      exact hK _ _ rfl (Same.refl _ _)
                    · intro ac wc hs hd hz hf hw K hK
                      have eg : ac.eval (.tmp 70) = .bool false := hw 2 rfl
                      refine skip_wanted (j := 2) (d := 70) (b := false) rfl rfl hz (of_decide_eq_true rfl) eg ?_
                      clear eg
                      exact hK _ _ rfl (Same.refl _ _)
                    · intro ac wc hs hd hz hf hw K hK
                      have eg : ac.eval (.tmp 70) = .bool false := hw 2 rfl
                      refine skip_wanted (j := 2) (d := 70) (b := false) rfl rfl hz (of_decide_eq_true rfl) eg ?_
                      clear eg
                      exact hK _ _ rfl (Same.refl _ _)
                    · intro ac wc hs hd hz hf hw K hK
                      have eg : ac.eval (.tmp 70) = .bool false := hw 2 rfl
                      refine skip_wanted (j := 2) (d := 70) (b := false) rfl rfl hz (of_decide_eq_true rfl) eg ?_
                      clear eg
                      exact hK _ _ rfl (Same.refl _ _)
                    · intro ac wc hs hd hz hf hw K hK
                      have eg : ac.eval (.tmp 70) = .bool false := hw 2 rfl
                      refine skip_wanted (j := 2) (d := 70) (b := false) rfl rfl hz (of_decide_eq_true rfl) eg ?_
                      clear eg
                      exact hK _ _ rfl (Same.refl _ _)
                    · intro ac wc hs hd hz hf hw K hK
                      have eg : ac.eval (.tmp 70) = .bool false := hw 2 rfl
                      refine skip_wanted (j := 2) (d := 70) (b := false) rfl rfl hz (of_decide_eq_true rfl) eg ?_
                      clear eg
                      exact hK _ _ rfl (Same.refl _ _)
                    · intro ac wc hs hd hz hf hw K hK
                      have eg : ac.eval (.tmp 70) = .bool false := hw 2 rfl
                      refine skip_wanted (j := 2) (d := 70) (b := false) rfl rfl hz (of_decide_eq_true rfl) eg ?_
                      clear eg
                      exact hK _ _ rfl (Same.refl _ _)
                    · intro ac wc hs hd hz hf hw K hK
                      have e0 : ac.eval (.tmp 70) = (.bool false) := hw 2 rfl
                      have e1 : ac.eval (.tmp 81) = undef := hw 13 rfl
                      clear hd hz hf hw
                      simp only [Region.wanted, if_true, Oper.wp, execOp, resolve, List.map_toArray, List.map_cons, List.map_nil, Option.map_some, Option.map_none, e0, e1]
                      go_simp
                      exact hK _ _ rfl (Same.refl _ _)
                    · intro ac wc hs hd hz hf hw K hK
                      have e0 : ac.eval (.tmp 82) = (.bool false) := hw 14 rfl
                      clear hd hz hf hw
                      simp only [Region.wanted, if_true, Oper.wp, execOp, resolve, List.map_toArray, List.map_cons, List.map_nil, Option.map_some, Option.map_none, e0]
                      go_simp
                      exact hK _ _ rfl (Same.refl _ _)
                    · intro ac wc hs hd hz hf hw K hK
                      have eg : ac.eval (.tmp 83) = .bool false := hw 15 rfl
                      refine run_wanted (j := 15) (d := 83) (b := false) rfl rfl hz (of_decide_eq_true rfl) eg ?_
                      clear eg
                      have e0 : ac.eval (.tmp 6) = (.pointer (some ⟨wr.heap.size, 0, none⟩)) := hf 6 rfl
                      clear hd hz hf hw
                      simp only [Oper.wp, execOp, resolve, List.map_toArray, List.map_cons, List.map_nil, Option.map_some, Option.map_none, e0]
                      go_simp
                      exact hK _ _ rfl (Same.refl _ _)
                    · intro ac wc hs hd hz hf hw K hK
                      have eg : ac.eval (.tmp 83) = .bool false := hw 15 rfl
                      refine run_wanted (j := 15) (d := 83) (b := false) rfl rfl hz (of_decide_eq_true rfl) eg ?_
                      clear eg
                      have e0 : ac.eval (.tmp 84) = (.pointer (some ⟨wr.heap.size, 2, none⟩)) := hw 16 rfl
                      have m0 : wc.cell? ⟨wr.heap.size, 2, none⟩ = some (.bool true) := hs.cell (p := ⟨wr.heap.size, 2, none⟩) trivial b2
                      clear hd hz hf hw
                      simp only [Oper.wp, execOp, resolve, List.map_toArray, List.map_cons, List.map_nil, Option.map_some, Option.map_none, e0]
                      go_simp
                      exact hK _ _ rfl (Same.refl _ _)
                    · intro ac wc hs hd hz hf hw K hK
                      have eg : ac.eval (.tmp 83) = .bool false := hw 15 rfl
                      refine run_wanted (j := 15) (d := 83) (b := false) rfl rfl hz (of_decide_eq_true rfl) eg ?_
                      clear eg
                      have e0 : ac.eval (.tmp 85) = (.bool true) := hw 17 rfl
                      clear hd hz hf hw
                      simp only [Oper.wp, execOp, resolve, List.map_toArray, List.map_cons, List.map_nil, Option.map_some, Option.map_none, e0]
                      go_simp
                      exact hK _ _ rfl (Same.refl _ _)
                    · intro ac wc hs hd hz hf hw K hK
                      have eg : ac.eval (.tmp 86) = .bool true := hw 18 rfl
                      refine run_wanted (j := 18) (d := 86) (b := true) rfl rfl hz (of_decide_eq_true rfl) eg ?_
                      clear eg
                      have e0 : ac.eval (.tmp 6) = (.pointer (some ⟨wr.heap.size, 0, none⟩)) := hf 6 rfl
                      clear hd hz hf hw
                      simp only [Oper.wp, execOp, resolve, List.map_toArray, List.map_cons, List.map_nil, Option.map_some, Option.map_none, e0]
                      go_simp
                      exact hK _ _ rfl (Same.refl _ _)
                    · intro ac wc hs hd hz hf hw K hK
                      have eg : ac.eval (.tmp 86) = .bool true := hw 18 rfl
                      refine run_wanted (j := 18) (d := 86) (b := true) rfl rfl hz (of_decide_eq_true rfl) eg ?_
                      clear eg
                      have e0 : ac.eval (.tmp 87) = (.pointer (some ⟨wr.heap.size, 3, none⟩)) := hw 19 rfl
                      have m0 : wc.cell? ⟨wr.heap.size, 3, none⟩ = some (.string ⟨#[]⟩) := hs.cell (p := ⟨wr.heap.size, 3, none⟩) trivial b3
                      clear hd hz hf hw
                      simp only [Oper.wp, execOp, resolve, List.map_toArray, List.map_cons, List.map_nil, Option.map_some, Option.map_none, e0]
                      go_simp
                      exact hK _ _ rfl (Same.refl _ _)
                    · intro ac wc hs hd hz hf hw K hK
                      have eg : ac.eval (.tmp 86) = .bool true := hw 18 rfl
                      refine run_wanted (j := 18) (d := 86) (b := true) rfl rfl hz (of_decide_eq_true rfl) eg ?_
                      clear eg
                      have e0 : ac.eval (.tmp 88) = (.string ⟨#[]⟩) := hw 20 rfl
                      clear hd hz hf hw
                      simp only [Oper.wp, execOp, resolve, List.map_toArray, List.map_cons, List.map_nil, Option.map_some, Option.map_none, e0]
                      go_simp
                      exact hK _ _ rfl (Same.refl _ _)
                    · intro ac wc hs hd hz hf hw K hK
                      have eg : ac.eval (.tmp 83) = .bool false := hw 15 rfl
                      refine run_wanted (j := 15) (d := 83) (b := false) rfl rfl hz (of_decide_eq_true rfl) eg ?_
                      clear eg
                      have e0 : ac.eval (.tmp 86) = (.bool true) := hw 18 rfl
                      have e1 : ac.eval (.tmp 89) = (.bool false) := hw 21 rfl
                      clear hd hz hf hw
                      simp only [Oper.wp, execOp, resolve, List.map_toArray, List.map_cons, List.map_nil, Option.map_some, Option.map_none, e0, e1]
                      go_simp
                      exact hK _ _ rfl (Same.refl _ _)
                    · intro ac wc hs hd hz hf hw K hK
                      have e0 : ac.eval (.tmp 83) = (.bool false) := hw 15 rfl
                      have e1 : ac.eval (.tmp 90) = (.bool false) := hw 22 rfl
                      clear hd hz hf hw
                      simp only [Region.wanted, if_true, Oper.wp, execOp, resolve, List.map_toArray, List.map_cons, List.map_nil, Option.map_some, Option.map_none, e0, e1]
                      go_simp
                      exact hK _ _ rfl (Same.refl _ _)
                  · intro wR hsR
                    simp only [putAll, Act.put, List.setIfInBounds_toArray, List.set_cons_succ, List.set_cons_zero]
                    go_wp2
                    go_roundw
                    case rel => exact ⟨1, by go_num, by omega, (HSi.out.trans HS9.out).trans hsR⟩
                    case measure => simp [intOf]; omega
              · obtain ⟨ad2, rfl, -, d0, d1, d2, d3⟩ := VerR.cells (RowR.keepAll Hvr.out (HS8.out.trans HSi.out)) hjl
                have hvd := Hgc.out.vers c.vers[i2 + 1] (List.getElem_mem hjl)
                have x3 : (0 : Int) ≤ ((i2 + 1 : Nat) : Int) := by omega
                have x4 : ((i2 + 1 : Nat) : Int) < (c.vers.length : Int) := by omega
                have hab2 := World.block_lt_of_cell? wr _ d0
                have x3 : (0 : Int) ≤ (i2 : Int) + 1 := by omega
                have x4 : (i2 : Int) + 1 < (c.vers.length : Int) := by omega
                go_wp2
                obtain ⟨Y, hY⟩ : ∃ Y, Y = c.vers[i2 + 1] := ⟨_, rfl⟩
                have rv := Row.new wr 69 (verCs c.vers[i2 + 1])
                have hS9 := (Same.refl (fun _ => True) wr).alloc (.cells (verCs c.vers[i2 + 1]).toArray 69)
                simp only [verCs] at rv hS9
                clear d0 d1 d2 d3 hab2
                revert rv hS9
                generalize wr.alloc (.cells _ 69) = W9
                intro rv hS9
                have b0 : W9.cell? ⟨wr.heap.size, 0, none⟩ = some (.int .i64 c.vers[i2 + 1].at_.wall) := rv.cell 0
                have b1 : W9.cell? ⟨wr.heap.size, 1, none⟩ = some (.int .i64 c.vers[i2 + 1].at_.tie) := rv.cell 1
                have b2 : W9.cell? ⟨wr.heap.size, 2, none⟩ = some (.bool c.vers[i2 + 1].drop) := rv.cell 2
                have b3 : W9.cell? ⟨wr.heap.size, 3, none⟩ = some (.string (str c.vers[i2 + 1].data)) := rv.cell 3
                have z9 := rv.lt
                have a1 : W9.cell? ⟨wo.heap.size, 1, none⟩ = some (.slice (some ad2) c.vers.length cu) := hS9.cell (p := ⟨wo.heap.size, 1, none⟩) trivial a1
                have HS9 := Lib.hid hS9
                clear rv hS9 hY
                obtain ⟨ad2', e2', -, p0, p1, -, -⟩ := VerR.cells (RowR.keepAll Hvr.out (HS8.out.trans HSi.out)) (i := i2) (by omega)
                injection e2' with e2'
                subst e2'
                have hls : lessB c.vers[i2].at_ c.vers[i2 + 1].at_ = true := List.pairwise_iff_getElem.1 Hgc.out.sort i2 (i2 + 1) (by omega) hjl (by omega)
                have gl := fun W => stless_any c.vers[i2].at_ c.vers[i2 + 1].at_ W
                rw [hls] at gl
                generalize c.vers[i2] = yp at *
                have x5 : (0 : Int) ≤ (i2 : Int) := by omega
                have x6 : (i2 : Int) < (c.vers.length : Int) := by omega
                have x7 : (0 : Int) < (i2 : Int) + 1 := by omega
                have x8 : IntKind.i64.wrap (i2 : Int) = (i2 : Int) := by rw [IntKind.wrap_i64]; omega
                have p0 := HS9.out.cell (p := (ad2.add (i2 * 4))) trivial p0
                have p1 := HS9.out.cell (p := ⟨(ad2.add (i2 * 4)).block, (ad2.add (i2 * 4)).off + 1, none⟩) trivial p1
                clear hls
                generalize c.vers[i2 + 1] = y at *
                cases hdr : y.drop
                · rw [hdr] at b2
                  clear hvd hdr
                  go_wp2
                  refine wp_region_eq_lit (vs := [(.int .i64 ((i2 : Int) + 1)), (.bool true), (.bool true), (.pointer (some ⟨wo.heap.size, 1, none⟩)), (.slice (some ad2) c.vers.length cu), (.int .i64 ((i2 : Int) + 1)), (.int .i64 i2), (.pointer (some (ad2.add (i2 * 4)))), (.pointer (some (ad2.add (i2 * 4)))), (stV yp.at_), (.pointer (some ⟨wr.heap.size, 0, none⟩)), (stV y.at_), (.bool true), (.bool false), (.bool false), (.bool false), (.pointer (some ⟨wr.heap.size, 2, none⟩)), (.bool false), (.bool false), undef, undef, undef, (.bool false), (.bool false)]) (by kernel_rfl) (by kernel_rfl) rfl rfl ?_ ?_
                  · refine ⟨?_, ?_, ?_, ?_, ?_, ?_, ?_, ?_, ?_, ?_, ?_, ?_, ?_, ?_, ?_, ?_, ?_, ?_, ?_, ?_, ?_, ?_, ?_, ?_, trivial⟩
                    · intro ac wc hs hd hz hf hw K hK
                      have e0 : ac.eval (.tmp 5) = (.int .i64 ((i2 : Int) + 1)) := hf 5 rfl
                      clear hd hz hf hw
                      simp only [Region.wanted, if_true, Oper.wp, execOp, resolve, List.map_toArray, List.map_cons, List.map_nil, Option.map_some, Option.map_none, e0]
                      go_simp
                      exact hK _ _ rfl (Same.refl _ _)
                    · intro ac wc hs hd hz hf hw K hK
                      have e0 : ac.eval (.tmp 68) = (.int .i64 ((i2 : Int) + 1)) := hw 0 rfl
                      clear hd hz hf hw
                      simp only [Region.wanted, if_true, Oper.wp, execOp, resolve, List.map_toArray, List.map_cons, List.map_nil, Option.map_some, Option.map_none, e0]
                      go_simp
                      exact hK _ _ rfl (Same.refl _ _)
                    · intro ac wc hs hd hz hf hw K hK
                      have e0 : ac.eval (.tmp 69) = (.bool true) := hw 1 rfl
                      clear hd hz hf hw
                      simp only [Region.wanted, if_true, Oper.wp, execOp, resolve, List.map_toArray, List.map_cons, List.map_nil, Option.map_some, Option.map_none, e0]
                      go_simp
                      exact hK _ _ rfl (Same.refl _ _)
                    · intro ac wc hs hd hz hf hw K hK
                      have eg : ac.eval (.tmp 70) = .bool true := hw 2 rfl
                      refine run_wanted (j := 2) (d := 70) (b := true) rfl rfl hz (of_decide_eq_true rfl) eg ?_
                      clear eg
                      have e0 : ac.eval (.tmp 4) = (.pointer (some ⟨wo.heap.size, 0, none⟩)) := hf 4 rfl
                      clear hd hz hf hw
                      simp only [Oper.wp, execOp, resolve, List.map_toArray, List.map_cons, List.map_nil, Option.map_some, Option.map_none, e0]
                      go_simp
                      exact hK _ _ rfl (Same.refl _ _)
                    · intro ac wc hs hd hz hf hw K hK
                      have eg : ac.eval (.tmp 70) = .bool true := hw 2 rfl
                      refine run_wanted (j := 2) (d := 70) (b := true) rfl rfl hz (of_decide_eq_true rfl) eg ?_
                      clear eg
                      have e0 : ac.eval (.tmp 71) = (.pointer (some ⟨wo.heap.size, 1, none⟩)) := hw 3 rfl
                      have m0 : wc.cell? ⟨wo.heap.size, 1, none⟩ = some (.slice (some ad2) c.vers.length cu) := hs.cell (p := ⟨wo.heap.size, 1, none⟩) trivial a1
                      clear hd hz hf hw
                      simp only [Oper.wp, execOp, resolve, List.map_toArray, List.map_cons, List.map_nil, Option.map_some, Option.map_none, e0]
                      go_simp
                      exact hK _ _ rfl (Same.refl _ _)
                    · intro ac wc hs hd hz hf hw K hK
                      have eg : ac.eval (.tmp 70) = .bool true := hw 2 rfl
                      refine run_wanted (j := 2) (d := 70) (b := true) rfl rfl hz (of_decide_eq_true rfl) eg ?_
                      clear eg
                      have e0 : ac.eval (.tmp 5) = (.int .i64 ((i2 : Int) + 1)) := hf 5 rfl
                      clear hd hz hf hw
                      simp only [Oper.wp, execOp, resolve, List.map_toArray, List.map_cons, List.map_nil, Option.map_some, Option.map_none, e0]
                      go_simp
                      exact hK _ _ rfl (Same.refl _ _)
                    · intro ac wc hs hd hz hf hw K hK
                      have eg : ac.eval (.tmp 70) = .bool true := hw 2 rfl
                      refine run_wanted (j := 2) (d := 70) (b := true) rfl rfl hz (of_decide_eq_true rfl) eg ?_
                      clear eg
                      have e0 : ac.eval (.tmp 73) = (.int .i64 ((i2 : Int) + 1)) := hw 5 rfl
                      clear hd hz hf hw
                      simp only [Oper.wp, execOp, resolve, List.map_toArray, List.map_cons, List.map_nil, Option.map_some, Option.map_none, e0]
                      go_simp
                      exact hK _ _ rfl (Same.refl _ _)
                    · intro ac wc hs hd hz hf hw K hK
                      have eg : ac.eval (.tmp 70) = .bool true := hw 2 rfl
                      refine run_wanted (j := 2) (d := 70) (b := true) rfl rfl hz (of_decide_eq_true rfl) eg ?_
                      clear eg
                      have e0 : ac.eval (.tmp 72) = (.slice (some ad2) c.vers.length cu) := hw 4 rfl
                      have e1 : ac.eval (.tmp 74) = (.int .i64 i2) := hw 6 rfl
                      clear hd hz hf hw
                      simp only [Oper.wp, execOp, resolve, List.map_toArray, List.map_cons, List.map_nil, Option.map_some, Option.map_none, e0, e1]
                      go_simp
                      exact hK _ _ rfl (Same.refl _ _)
                    · intro ac wc hs hd hz hf hw K hK
                      have eg : ac.eval (.tmp 70) = .bool true := hw 2 rfl
                      refine run_wanted (j := 2) (d := 70) (b := true) rfl rfl hz (of_decide_eq_true rfl) eg ?_
                      clear eg
                      have e0 : ac.eval (.tmp 75) = (.pointer (some (ad2.add (i2 * 4)))) := hw 7 rfl
                      clear hd hz hf hw
                      simp only [Oper.wp, execOp, resolve, List.map_toArray, List.map_cons, List.map_nil, Option.map_some, Option.map_none, e0]
                      go_simp
                      exact hK _ _ rfl (Same.refl _ _)
                    · intro ac wc hs hd hz hf hw K hK
                      have eg : ac.eval (.tmp 70) = .bool true := hw 2 rfl
                      refine run_wanted (j := 2) (d := 70) (b := true) rfl rfl hz (of_decide_eq_true rfl) eg ?_
                      clear eg
                      have e0 : ac.eval (.tmp 76) = (.pointer (some (ad2.add (i2 * 4)))) := hw 8 rfl
                      have m0 : wc.cell? (ad2.add (i2 * 4)) = some (.int .i64 yp.at_.wall) := hs.cell (p := (ad2.add (i2 * 4))) trivial p0
                      have m1 : wc.cell? ⟨(ad2.add (i2 * 4)).block, (ad2.add (i2 * 4)).off + 1, none⟩ = some (.int .i64 yp.at_.tie) := hs.cell (p := ⟨(ad2.add (i2 * 4)).block, (ad2.add (i2 * 4)).off + 1, none⟩) trivial p1
                      clear hd hz hf hw
                      simp only [Oper.wp, execOp, resolve, List.map_toArray, List.map_cons, List.map_nil, Option.map_some, Option.map_none, e0]
                      go_simp
                      exact hK _ _ rfl (Same.refl _ _)
                    · intro ac wc hs hd hz hf hw K hK
                      have eg : ac.eval (.tmp 70) = .bool true := hw 2 rfl
                      refine run_wanted (j := 2) (d := 70) (b := true) rfl rfl hz (of_decide_eq_true rfl) eg ?_
                      clear eg
                      have e0 : ac.eval (.tmp 6) = (.pointer (some ⟨wr.heap.size, 0, none⟩)) := hf 6 rfl
                      clear hd hz hf hw
                      simp only [Oper.wp, execOp, resolve, List.map_toArray, List.map_cons, List.map_nil, Option.map_some, Option.map_none, e0]
                      go_simp
                      exact hK _ _ rfl (Same.refl _ _)
                    · intro ac wc hs hd hz hf hw K hK
                      have eg : ac.eval (.tmp 70) = .bool true := hw 2 rfl
                      refine run_wanted (j := 2) (d := 70) (b := true) rfl rfl hz (of_decide_eq_true rfl) eg ?_
                      clear eg
                      have e0 : ac.eval (.tmp 78) = (.pointer (some ⟨wr.heap.size, 0, none⟩)) := hw 10 rfl
                      have m0 : wc.cell? ⟨wr.heap.size, 0, none⟩ = some (.int .i64 y.at_.wall) := hs.cell (p := ⟨wr.heap.size, 0, none⟩) trivial b0
                      have m1 : wc.cell? ⟨wr.heap.size, 1, none⟩ = some (.int .i64 y.at_.tie) := hs.cell (p := ⟨wr.heap.size, 1, none⟩) trivial b1
                      clear hd hz hf hw
                      simp only [Oper.wp, execOp, resolve, List.map_toArray, List.map_cons, List.map_nil, Option.map_some, Option.map_none, e0]
                      go_simp
                      exact hK _ _ rfl (Same.refl _ _)
                    · intro ac wc hs hd hz hf hw K hK
                      have eg : ac.eval (.tmp 70) = .bool true := hw 2 rfl
                      refine run_wanted (j := 2) (d := 70) (b := true) rfl rfl hz (of_decide_eq_true rfl) eg ?_
                      clear eg
                      have e0 : ac.eval (.tmp 77) = (stV yp.at_) := hw 9 rfl
                      have e1 : ac.eval (.tmp 79) = (stV y.at_) := hw 11 rfl
                      clear hd hz hf hw
                      simp only [Oper.wp, execOp, resolve, List.map_toArray, List.map_cons, List.map_nil, Option.map_some, Option.map_none, e0, e1]
                      go_simp
                      refine (gl _).mono ?_
                      rintro e wd ⟨rfl, hs2⟩
                      exact hK _ _ rfl hs2
                    · intro ac wc hs hd hz hf hw K hK
                      have eg : ac.eval (.tmp 70) = .bool true := hw 2 rfl
                      refine run_wanted (j := 2) (d := 70) (b := true) rfl rfl hz (of_decide_eq_true rfl) eg ?_
                      clear eg
                      have e0 : ac.eval (.tmp 80) = (.bool true) := hw 12 rfl
                      clear hd hz hf hw
                      simp only [Oper.wp, execOp, resolve, List.map_toArray, List.map_cons, List.map_nil, Option.map_some, Option.map_none, e0]
                      go_simp
                      exact hK _ _ rfl (Same.refl _ _)
                    · intro ac wc hs hd hz hf hw K hK
                      have e0 : ac.eval (.tmp 70) = (.bool true) := hw 2 rfl
                      have e1 : ac.eval (.tmp 81) = (.bool false) := hw 13 rfl
                      clear hd hz hf hw
                      simp only [Region.wanted, if_true, Oper.wp, execOp, resolve, List.map_toArray, List.map_cons, List.map_nil, Option.map_some, Option.map_none, e0, e1]
                      go_simp
                      exact hK _ _ rfl (Same.refl _ _)
                    · intro ac wc hs hd hz hf hw K hK
                      have e0 : ac.eval (.tmp 82) = (.bool false) := hw 14 rfl
                      clear hd hz hf hw
                      simp only [Region.wanted, if_true, Oper.wp, execOp, resolve, List.map_toArray, List.map_cons, List.map_nil, Option.map_some, Option.map_none, e0]
                      go_simp
                      exact hK _ _ rfl (Same.refl _ _)
                    · intro ac wc hs hd hz hf hw K hK
                      have eg : ac.eval (.tmp 83) = .bool false := hw 15 rfl
                      refine run_wanted (j := 15) (d := 83) (b := false) rfl rfl hz (of_decide_eq_true rfl) eg ?_
                      clear eg
                      have e0 : ac.eval (.tmp 6) = (.pointer (some ⟨wr.heap.size, 0, none⟩)) := hf 6 rfl
                      clear hd hz hf hw
                      simp only [Oper.wp, execOp, resolve, List.map_toArray, List.map_cons, List.map_nil, Option.map_some, Option.map_none, e0]
                      go_simp
                      exact hK _ _ rfl (Same.refl _ _)
                    · intro ac wc hs hd hz hf hw K hK
                      have eg : ac.eval (.tmp 83) = .bool false := hw 15 rfl
                      refine run_wanted (j := 15) (d := 83) (b := false) rfl rfl hz (of_decide_eq_true rfl) eg ?_
                      clear eg
                      have e0 : ac.eval (.tmp 84) = (.pointer (some ⟨wr.heap.size, 2, none⟩)) := hw 16 rfl
                      have m0 : wc.cell? ⟨wr.heap.size, 2, none⟩ = some (.bool false) := hs.cell (p := ⟨wr.heap.size, 2, none⟩) trivial b2
                      clear hd hz hf hw
                      simp only [Oper.wp, execOp, resolve, List.map_toArray, List.map_cons, List.map_nil, Option.map_some, Option.map_none, e0]
                      go_simp
                      exact hK _ _ rfl (Same.refl _ _)
                    · intro ac wc hs hd hz hf hw K hK
                      have eg : ac.eval (.tmp 83) = .bool false := hw 15 rfl
                      refine run_wanted (j := 15) (d := 83) (b := false) rfl rfl hz (of_decide_eq_true rfl) eg ?_
                      clear eg
                      have e0 : ac.eval (.tmp 85) = (.bool false) := hw 17 rfl
                      clear hd hz hf hw
                      simp only [Oper.wp, execOp, resolve, List.map_toArray, List.map_cons, List.map_nil, Option.map_some, Option.map_none, e0]
                      go_simp
                      exact hK _ _ rfl (Same.refl _ _)
                    · intro ac wc hs hd hz hf hw K hK
                      have eg : ac.eval (.tmp 86) = .bool false := hw 18 rfl
                      refine skip_wanted (j := 18) (d := 86) (b := false) rfl rfl hz (of_decide_eq_true rfl) eg ?_
                      clear eg
                      exact hK _ _ rfl (Same.refl _ _)
                    · intro ac wc hs hd hz hf hw K hK
                      have eg : ac.eval (.tmp 86) = .bool false := hw 18 rfl
                      refine skip_wanted (j := 18) (d := 86) (b := false) rfl rfl hz (of_decide_eq_true rfl) eg ?_
                      clear eg
                      exact hK _ _ rfl (Same.refl _ _)
                    · intro ac wc hs hd hz hf hw K hK
                      have eg : ac.eval (.tmp 86) = .bool false := hw 18 rfl
                      refine skip_wanted (j := 18) (d := 86) (b := false) rfl rfl hz (of_decide_eq_true rfl) eg ?_
                      clear eg
                      exact hK _ _ rfl (Same.refl _ _)
                    · intro ac wc hs hd hz hf hw K hK
                      have eg : ac.eval (.tmp 83) = .bool false := hw 15 rfl
                      refine run_wanted (j := 15) (d := 83) (b := false) rfl rfl hz (of_decide_eq_true rfl) eg ?_
                      clear eg
                      have e0 : ac.eval (.tmp 86) = (.bool false) := hw 18 rfl
                      have e1 : ac.eval (.tmp 89) = undef := hw 21 rfl
                      clear hd hz hf hw
                      simp only [Oper.wp, execOp, resolve, List.map_toArray, List.map_cons, List.map_nil, Option.map_some, Option.map_none, e0, e1]
                      go_simp
                      exact hK _ _ rfl (Same.refl _ _)
                    · intro ac wc hs hd hz hf hw K hK
                      have e0 : ac.eval (.tmp 83) = (.bool false) := hw 15 rfl
                      have e1 : ac.eval (.tmp 90) = (.bool false) := hw 22 rfl
                      clear hd hz hf hw
                      simp only [Region.wanted, if_true, Oper.wp, execOp, resolve, List.map_toArray, List.map_cons, List.map_nil, Option.map_some, Option.map_none, e0, e1]
                      go_simp
                      exact hK _ _ rfl (Same.refl _ _)
                  · intro wR hsR
                    simp only [putAll, Act.put, List.setIfInBounds_toArray, List.set_cons_succ, List.set_cons_zero]
                    go_wp2
                    go_roundw
                    case rel => exact ⟨i2 + 1 + 1, by go_num, by omega, (HSi.out.trans HS9.out).trans hsR⟩
                    case measure => simp [intOf]; omega
                · rw [hdr] at b2
                  rw [hvd hdr] at b3
                  have b3 : W9.cell? ⟨wr.heap.size, 3, none⟩ = some (.string ⟨#[]⟩) := b3
                  clear hvd hdr
                  go_wp2
                  refine wp_region_eq_lit (vs := [(.int .i64 ((i2 : Int) + 1)), (.bool true), (.bool true), (.pointer (some ⟨wo.heap.size, 1, none⟩)), (.slice (some ad2) c.vers.length cu), (.int .i64 ((i2 : Int) + 1)), (.int .i64 i2), (.pointer (some (ad2.add (i2 * 4)))), (.pointer (some (ad2.add (i2 * 4)))), (stV yp.at_), (.pointer (some ⟨wr.heap.size, 0, none⟩)), (stV y.at_), (.bool true), (.bool false), (.bool false), (.bool false), (.pointer (some ⟨wr.heap.size, 2, none⟩)), (.bool true), (.bool true), (.pointer (some ⟨wr.heap.size, 3, none⟩)), (.string ⟨#[]⟩), (.bool false), (.bool false), (.bool false)]) (by kernel_rfl) (by kernel_rfl) rfl rfl ?_ ?_
                  · refine ⟨?_, ?_, ?_, ?_, ?_, ?_, ?_, ?_, ?_, ?_, ?_, ?_, ?_, ?_, ?_, ?_, ?_, ?_, ?_, ?_, ?_, ?_, ?_, ?_, trivial⟩
                    · intro ac wc hs hd hz hf hw K hK
                      have e0 : ac.eval (.tmp 5) = (.int .i64 ((i2 : Int) + 1)) := hf 5 rfl
                      clear hd hz hf hw
                      simp only [Region.wanted, if_true, Oper.wp, execOp, resolve, List.map_toArray, List.map_cons, List.map_nil, Option.map_some, Option.map_none, e0]
                      go_simp
                      exact hK _ _ rfl (Same.refl _ _)
                    · intro ac wc hs hd hz hf hw K hK
                      have e0 : ac.eval (.tmp 68) = (.int .i64 ((i2 : Int) + 1)) := hw 0 rfl
                      clear hd hz hf hw
                      simp only [Region.wanted, if_true, Oper.wp, execOp, resolve, List.map_toArray, List.map_cons, List.map_nil, Option.map_some, Option.map_none, e0]
                      go_simp
                      exact hK _ _ rfl (Same.refl _ _)
                    · intro ac wc hs hd hz hf hw K hK
                      have e0 : ac.eval (.tmp 69) = (.bool true) := hw 1 rfl
                      clear hd hz hf hw
                      simp only [Region.wanted, if_true, Oper.wp, execOp, resolve, List.map_toArray, List.map_cons, List.map_nil, Option.map_some, Option.map_none, e0]
                      go_simp
                      exact hK _ _ rfl (Same.refl _ _)
                    · intro ac wc hs hd hz hf hw K hK
                      have eg : ac.eval (.tmp 70) = .bool true := hw 2 rfl
                      refine run_wanted (j := 2) (d := 70) (b := true) rfl rfl hz (of_decide_eq_true rfl) eg ?_
                      clear eg
                      have e0 : ac.eval (.tmp 4) = (.pointer (some ⟨wo.heap.size, 0, none⟩)) := hf 4 rfl
                      clear hd hz hf hw
                      simp only [Oper.wp, execOp, resolve, List.map_toArray, List.map_cons, List.map_nil, Option.map_some, Option.map_none, e0]
                      go_simp
                      exact hK _ _ rfl (Same.refl _ _)
                    · intro ac wc hs hd hz hf hw K hK
                      have eg : ac.eval (.tmp 70) = .bool true := hw 2 rfl
                      refine run_wanted (j := 2) (d := 70) (b := true) rfl rfl hz (of_decide_eq_true rfl) eg ?_
                      clear eg
                      have e0 : ac.eval (.tmp 71) = (.pointer (some ⟨wo.heap.size, 1, none⟩)) := hw 3 rfl
                      have m0 : wc.cell? ⟨wo.heap.size, 1, none⟩ = some (.slice (some ad2) c.vers.length cu) := hs.cell (p := ⟨wo.heap.size, 1, none⟩) trivial a1
                      clear hd hz hf hw
                      simp only [Oper.wp, execOp, resolve, List.map_toArray, List.map_cons, List.map_nil, Option.map_some, Option.map_none, e0]
                      go_simp
                      exact hK _ _ rfl (Same.refl _ _)
                    · intro ac wc hs hd hz hf hw K hK
                      have eg : ac.eval (.tmp 70) = .bool true := hw 2 rfl
                      refine run_wanted (j := 2) (d := 70) (b := true) rfl rfl hz (of_decide_eq_true rfl) eg ?_
                      clear eg
                      have e0 : ac.eval (.tmp 5) = (.int .i64 ((i2 : Int) + 1)) := hf 5 rfl
                      clear hd hz hf hw
                      simp only [Oper.wp, execOp, resolve, List.map_toArray, List.map_cons, List.map_nil, Option.map_some, Option.map_none, e0]
                      go_simp
                      exact hK _ _ rfl (Same.refl _ _)
                    · intro ac wc hs hd hz hf hw K hK
                      have eg : ac.eval (.tmp 70) = .bool true := hw 2 rfl
                      refine run_wanted (j := 2) (d := 70) (b := true) rfl rfl hz (of_decide_eq_true rfl) eg ?_
                      clear eg
                      have e0 : ac.eval (.tmp 73) = (.int .i64 ((i2 : Int) + 1)) := hw 5 rfl
                      clear hd hz hf hw
                      simp only [Oper.wp, execOp, resolve, List.map_toArray, List.map_cons, List.map_nil, Option.map_some, Option.map_none, e0]
                      go_simp
                      exact hK _ _ rfl (Same.refl _ _)
                    · intro ac wc hs hd hz hf hw K hK
                      have eg : ac.eval (.tmp 70) = .bool true := hw 2 rfl
                      refine run_wanted (j := 2) (d := 70) (b := true) rfl rfl hz (of_decide_eq_true rfl) eg ?_
                      clear eg
                      have e0 : ac.eval (.tmp 72) = (.slice (some ad2) c.vers.length cu) := hw 4 rfl
                      have e1 : ac.eval (.tmp 74) = (.int .i64 i2) := hw 6 rfl
                      clear hd hz hf hw
                      simp only [Oper.wp, execOp, resolve, List.map_toArray, List.map_cons, List.map_nil, Option.map_some, Option.map_none, e0, e1]
                      go_simp
                      exact hK _ _ rfl (Same.refl _ _)
                    · intro ac wc hs hd hz hf hw K hK
                      have eg : ac.eval (.tmp 70) = .bool true := hw 2 rfl
                      refine run_wanted (j := 2) (d := 70) (b := true) rfl rfl hz (of_decide_eq_true rfl) eg ?_
                      clear eg
                      have e0 : ac.eval (.tmp 75) = (.pointer (some (ad2.add (i2 * 4)))) := hw 7 rfl
                      clear hd hz hf hw
                      simp only [Oper.wp, execOp, resolve, List.map_toArray, List.map_cons, List.map_nil, Option.map_some, Option.map_none, e0]
                      go_simp
                      exact hK _ _ rfl (Same.refl _ _)
                    · intro ac wc hs hd hz hf hw K hK
                      have eg : ac.eval (.tmp 70) = .bool true := hw 2 rfl
                      refine run_wanted (j := 2) (d := 70) (b := true) rfl rfl hz (of_decide_eq_true rfl) eg ?_
                      clear eg
                      have e0 : ac.eval (.tmp 76) = (.pointer (some (ad2.add (i2 * 4)))) := hw 8 rfl
                      have m0 : wc.cell? (ad2.add (i2 * 4)) = some (.int .i64 yp.at_.wall) := hs.cell (p := (ad2.add (i2 * 4))) trivial p0
                      have m1 : wc.cell? ⟨(ad2.add (i2 * 4)).block, (ad2.add (i2 * 4)).off + 1, none⟩ = some (.int .i64 yp.at_.tie) := hs.cell (p := ⟨(ad2.add (i2 * 4)).block, (ad2.add (i2 * 4)).off + 1, none⟩) trivial p1
                      clear hd hz hf hw
                      simp only [Oper.wp, execOp, resolve, List.map_toArray, List.map_cons, List.map_nil, Option.map_some, Option.map_none, e0]
                      go_simp
                      exact hK _ _ rfl (Same.refl _ _)
                    · intro ac wc hs hd hz hf hw K hK
                      have eg : ac.eval (.tmp 70) = .bool true := hw 2 rfl
                      refine run_wanted (j := 2) (d := 70) (b := true) rfl rfl hz (of_decide_eq_true rfl) eg ?_
                      clear eg
                      have e0 : ac.eval (.tmp 6) = (.pointer (some ⟨wr.heap.size, 0, none⟩)) := hf 6 rfl
                      clear hd hz hf hw
                      simp only [Oper.wp, execOp, resolve, List.map_toArray, List.map_cons, List.map_nil, Option.map_some, Option.map_none, e0]
                      go_simp
                      exact hK _ _ rfl (Same.refl _ _)
                    · intro ac wc hs hd hz hf hw K hK
                      have eg : ac.eval (.tmp 70) = .bool true := hw 2 rfl
                      refine run_wanted (j := 2) (d := 70) (b := true) rfl rfl hz (of_decide_eq_true rfl) eg ?_
                      clear eg
                      have e0 : ac.eval (.tmp 78) = (.pointer (some ⟨wr.heap.size, 0, none⟩)) := hw 10 rfl
                      have m0 : wc.cell? ⟨wr.heap.size, 0, none⟩ = some (.int .i64 y.at_.wall) := hs.cell (p := ⟨wr.heap.size, 0, none⟩) trivial b0
                      have m1 : wc.cell? ⟨wr.heap.size, 1, none⟩ = some (.int .i64 y.at_.tie) := hs.cell (p := ⟨wr.heap.size, 1, none⟩) trivial b1
                      clear hd hz hf hw
                      simp only [Oper.wp, execOp, resolve, List.map_toArray, List.map_cons, List.map_nil, Option.map_some, Option.map_none, e0]
                      go_simp
                      exact hK _ _ rfl (Same.refl _ _)
                    · intro ac wc hs hd hz hf hw K hK
                      have eg : ac.eval (.tmp 70) = .bool true := hw 2 rfl
                      refine run_wanted (j := 2) (d := 70) (b := true) rfl rfl hz (of_decide_eq_true rfl) eg ?_
                      clear eg
                      have e0 : ac.eval (.tmp 77) = (stV yp.at_) := hw 9 rfl
                      have e1 : ac.eval (.tmp 79) = (stV y.at_) := hw 11 rfl
                      clear hd hz hf hw
                      simp only [Oper.wp, execOp, resolve, List.map_toArray, List.map_cons, List.map_nil, Option.map_some, Option.map_none, e0, e1]
                      go_simp
                      refine (gl _).mono ?_
                      rintro e wd ⟨rfl, hs2⟩
                      exact hK _ _ rfl hs2
                    · intro ac wc hs hd hz hf hw K hK
                      have eg : ac.eval (.tmp 70) = .bool true := hw 2 rfl
                      refine run_wanted (j := 2) (d := 70) (b := true) rfl rfl hz (of_decide_eq_true rfl) eg ?_
                      clear eg
                      have e0 : ac.eval (.tmp 80) = (.bool true) := hw 12 rfl
                      clear hd hz hf hw
                      simp only [Oper.wp, execOp, resolve, List.map_toArray, List.map_cons, List.map_nil, Option.map_some, Option.map_none, e0]
                      go_simp
                      exact hK _ _ rfl (Same.refl _ _)
                    · intro ac wc hs hd hz hf hw K hK
                      have e0 : ac.eval (.tmp 70) = (.bool true) := hw 2 rfl
                      have e1 : ac.eval (.tmp 81) = (.bool false) := hw 13 rfl
                      clear hd hz hf hw
                      simp only [Region.wanted, if_true, Oper.wp, execOp, resolve, List.map_toArray, List.map_cons, List.map_nil, Option.map_some, Option.map_none, e0, e1]
                      go_simp
                      exact hK _ _ rfl (Same.refl _ _)
                    · intro ac wc hs hd hz hf hw K hK
                      have e0 : ac.eval (.tmp 82) = (.bool false) := hw 14 rfl
                      clear hd hz hf hw
                      simp only [Region.wanted, if_true, Oper.wp, execOp, resolve, List.map_toArray, List.map_cons, List.map_nil, Option.map_some, Option.map_none, e0]
                      go_simp
                      exact hK _ _ rfl (Same.refl _ _)
                    · intro ac wc hs hd hz hf hw K hK
                      have eg : ac.eval (.tmp 83) = .bool false := hw 15 rfl
                      refine run_wanted (j := 15) (d := 83) (b := false) rfl rfl hz (of_decide_eq_true rfl) eg ?_
                      clear eg
                      have e0 : ac.eval (.tmp 6) = (.pointer (some ⟨wr.heap.size, 0, none⟩)) := hf 6 rfl
                      clear hd hz hf hw
                      simp only [Oper.wp, execOp, resolve, List.map_toArray, List.map_cons, List.map_nil, Option.map_some, Option.map_none, e0]
                      go_simp
                      exact hK _ _ rfl (Same.refl _ _)
                    · intro ac wc hs hd hz hf hw K hK
                      have eg : ac.eval (.tmp 83) = .bool false := hw 15 rfl
                      refine run_wanted (j := 15) (d := 83) (b := false) rfl rfl hz (of_decide_eq_true rfl) eg ?_
                      clear eg
                      have e0 : ac.eval (.tmp 84) = (.pointer (some ⟨wr.heap.size, 2, none⟩)) := hw 16 rfl
                      have m0 : wc.cell? ⟨wr.heap.size, 2, none⟩ = some (.bool true) := hs.cell (p := ⟨wr.heap.size, 2, none⟩) trivial b2
                      clear hd hz hf hw
                      simp only [Oper.wp, execOp, resolve, List.map_toArray, List.map_cons, List.map_nil, Option.map_some, Option.map_none, e0]
                      go_simp
                      exact hK _ _ rfl (Same.refl _ _)
                    · intro ac wc hs hd hz hf hw K hK
                      have eg : ac.eval (.tmp 83) = .bool false := hw 15 rfl
                      refine run_wanted (j := 15) (d := 83) (b := false) rfl rfl hz (of_decide_eq_true rfl) eg ?_
                      clear eg
                      have e0 : ac.eval (.tmp 85) = (.bool true) := hw 17 rfl
                      clear hd hz hf hw
                      simp only [Oper.wp, execOp, resolve, List.map_toArray, List.map_cons, List.map_nil, Option.map_some, Option.map_none, e0]
                      go_simp
                      exact hK _ _ rfl (Same.refl _ _)
                    · intro ac wc hs hd hz hf hw K hK
                      have eg : ac.eval (.tmp 86) = .bool true := hw 18 rfl
                      refine run_wanted (j := 18) (d := 86) (b := true) rfl rfl hz (of_decide_eq_true rfl) eg ?_
                      clear eg
                      have e0 : ac.eval (.tmp 6) = (.pointer (some ⟨wr.heap.size, 0, none⟩)) := hf 6 rfl
                      clear hd hz hf hw
                      simp only [Oper.wp, execOp, resolve, List.map_toArray, List.map_cons, List.map_nil, Option.map_some, Option.map_none, e0]
                      go_simp
                      exact hK _ _ rfl (Same.refl _ _)
                    · intro ac wc hs hd hz hf hw K hK
                      have eg : ac.eval (.tmp 86) = .bool true := hw 18 rfl
                      refine run_wanted (j := 18) (d := 86) (b := true) rfl rfl hz (of_decide_eq_true rfl) eg ?_
                      clear eg
                      have e0 : ac.eval (.tmp 87) = (.pointer (some ⟨wr.heap.size, 3, none⟩)) := hw 19 rfl
                      have m0 : wc.cell? ⟨wr.heap.size, 3, none⟩ = some (.string ⟨#[]⟩) := hs.cell (p := ⟨wr.heap.size, 3, none⟩) trivial b3
                      clear hd hz hf hw
                      simp only [Oper.wp, execOp, resolve, List.map_toArray, List.map_cons, List.map_nil, Option.map_some, Option.map_none, e0]
                      go_simp
                      exact hK _ _ rfl (Same.refl _ _)
                    · intro ac wc hs hd hz hf hw K hK
                      have eg : ac.eval (.tmp 86) = .bool true := hw 18 rfl
                      refine run_wanted (j := 18) (d := 86) (b := true) rfl rfl hz (of_decide_eq_true rfl) eg ?_
                      clear eg
                      have e0 : ac.eval (.tmp 88) = (.string ⟨#[]⟩) := hw 20 rfl
                      clear hd hz hf hw
                      simp only [Oper.wp, execOp, resolve, List.map_toArray, List.map_cons, List.map_nil, Option.map_some, Option.map_none, e0]
                      go_simp
                      exact hK _ _ rfl (Same.refl _ _)
                    · intro ac wc hs hd hz hf hw K hK
                      have eg : ac.eval (.tmp 83) = .bool false := hw 15 rfl
                      refine run_wanted (j := 15) (d := 83) (b := false) rfl rfl hz (of_decide_eq_true rfl) eg ?_
                      clear eg
                      have e0 : ac.eval (.tmp 86) = (.bool true) := hw 18 rfl
                      have e1 : ac.eval (.tmp 89) = (.bool false) := hw 21 rfl
                      clear hd hz hf hw
                      simp only [Oper.wp, execOp, resolve, List.map_toArray, List.map_cons, List.map_nil, Option.map_some, Option.map_none, e0, e1]
                      go_simp
                      exact hK _ _ rfl (Same.refl _ _)
                    · intro ac wc hs hd hz hf hw K hK
                      have e0 : ac.eval (.tmp 83) = (.bool false) := hw 15 rfl
                      have e1 : ac.eval (.tmp 90) = (.bool false) := hw 22 rfl
                      clear hd hz hf hw
                      simp only [Region.wanted, if_true, Oper.wp, execOp, resolve, List.map_toArray, List.map_cons, List.map_nil, Option.map_some, Option.map_none, e0, e1]
                      go_simp
                      exact hK _ _ rfl (Same.refl _ _)
                  · intro wR hsR
                    simp only [putAll, Act.put, List.setIfInBounds_toArray, List.set_cons_succ, List.set_cons_zero]
                    go_wp2
                    go_roundw
                    case rel => exact ⟨i2 + 1 + 1, by go_num, by omega, (HSi.out.trans HS9.out).trans hsR⟩
                    case measure => simp [intOf]; omega
            · obtain rfl : j = c.vers.length := by omega
              go_wp2
              go_roundw
              case rel => exact ⟨0 + 1, by go_num, by omega, (HS.out.trans HS8.out).trans HSi.out⟩
              case measure => simp [intOf]; omega
      · have hgc := hg.each cs[i + 1] (List.getElem_mem hlt)
        have hlo := List.pairwise_iff_getElem.1 hg.sort i (i + 1) (by omega) hlt (by omega)
        obtain ⟨adp, up, ep, -, -, cp0, -⟩ := CelR.cells12 (Hv.out.keepAll HS.out) (i := i) (by omega)
        injection ep with ep
        subst ep
        have q1 := ltB_str cs[i + 1].key cs[i].key
        have q3 : (Op.bytesLess (str cs[i + 1].key).toList (str cs[i].key).toList || (str cs[i + 1].key).toList == (str cs[i].key).toList) = false := by
          rw [q1, ltB_asymm hlo, Bool.false_or, ByteArray.toList_eq, ByteArray.toList_eq]
          have := ltB_ne hlo
          simpa [str] using fun e => this e.symm
        have y1 : (0 : Int) ≤ (i : Int) := by omega
        have y2 : (i : Int) < (cs.length : Int) := by omega
        have y3 : (0 : Int) < (i : Int) + 1 := by omega
        have y6 : IntKind.i64.wrap (i : Int) = (i : Int) := by rw [IntKind.wrap_i64]; omega
        have y4 : (0 : Int) ≤ (i : Int) + 1 := by omega
        have y5 : (i : Int) + 1 < (cs.length : Int) := by omega
        clear hlo q1
        generalize cs[i].key = pk at *
        obtain ⟨c, hck⟩ : ∃ c, c = cs[i + 1] := ⟨_, rfl⟩
        rw [← hck] at c0 c1 c2 c3 c4 c5 c6 c7 c8 c9 c10 c11 hvr hcl hgc hq1 q3
        have Hgc := Lib.hid hgc
        have Hvr := Lib.hid hvr
        clear hvr hck
        go_wp2
        have r1 := Row.new wo 64 [.string (str c.key), .slice Au c.vers.length cu, .bool c.locked, .int .i64 c.lock.by_.node, .int .i64 c.lock.by_.life, .int .i64 c.lock.by_.seq, .int .i64 c.lock.by_.attempt, .int .i64 c.lock.home, .int .i64 c.lock.at_.wall, .int .i64 c.lock.at_.tie, .bool c.lock.drop, .string (str c.lock.data)]
        have hS7 := (Same.refl (fun _ => True) wo).alloc (.cells ([.string (str c.key), .slice Au c.vers.length cu, .bool c.locked, .int .i64 c.lock.by_.node, .int .i64 c.lock.by_.life, .int .i64 c.lock.by_.seq, .int .i64 c.lock.by_.attempt, .int .i64 c.lock.home, .int .i64 c.lock.at_.wall, .int .i64 c.lock.at_.tie, .bool c.lock.drop, .string (str c.lock.data)] : List Value).toArray 64)
        have cp0 := hS7.cell (p := (ad.add (i * 12))) trivial cp0
        clear c0 c1 c2 c3 c4 c5 c6 c7 c8 c9 c10 c11
        revert r1 hS7 cp0
        generalize wo.alloc (.cells _ 64) = W7
        intro r1 hS7 cp0
        obtain ⟨a0, a1, a2, a3, a4, a5, a6, a7, a8, a9, a10, a11, -⟩ := cel_cells r1
        have HS7 := Lib.hid hS7
        have Hbox7 := Lib.hid r1
        clear r1 hS7
        go_cut [9, 59] from 9 to 93 (fun i9 c59 wx => i9 = .int .i64 ((i : Int) + 1) ∧ c59 = .bool false ∧ ∃ nq, wx = W7.drewN nq)
        case first =>
          have MEET : True := trivial
          cases hl : c.locked
          · have hz := hgc.free hl
            have h0 : (0 : Int) < (c.vers.length : Int) := by
              have := hgc.kept
              unfold keptB at this
              rw [hl] at this
              simp at this
              have := List.length_pos_iff.2 this
              omega
            have h1 : ((c.vers.length : Int) == 0) = false := by simp; intro e; rw [e] at h0; simp at h0
            rw [hl] at a2
            rw [hz] at a3 a4 a5 a6 a7 a8 a9 a10 a11
            simp only [Lck.zero] at a3 a4 a5 a6 a7 a8 a9 a10 a11
            have a11x : W7.cell? ⟨wo.heap.size, 11, none⟩ = some (.string ⟨#[]⟩) := a11
            clear hgc hl hz a11
            go_quiet (fail)
            rename_i nq
            go_wp2
            go_meet
            exact ⟨rfl, rfl, nq, rfl⟩
          · rw [hl] at a2
            cases hd : c.lock.drop
            · rw [hd] at a10
              clear hgc hl hd
              go_quiet (fail)
              rename_i nq
              go_wp2
              go_meet
              exact ⟨rfl, rfl, nq, rfl⟩
            · rw [hd] at a10
              rw [hgc.lock hd] at a11
              have a11x : W7.cell? ⟨wo.heap.size, 11, none⟩ = some (.string ⟨#[]⟩) := a11
              clear hgc hl hd a11
              go_quiet (fail)
              rename_i nq
              go_wp2
              go_meet
              exact ⟨rfl, rfl, nq, rfl⟩
        case rest =>
          obtain ⟨rfl, rfl, nq, rfl⟩ := hcut
          have hS8 := HS7.out.drewN nq
          have hbox8 := Hbox7.out.keep ((Same.refl (fun _ => True) W7).drewN nq) trivial
          generalize W7.drewN nq = W8 at *
          have a1 : W8.cell? ⟨wo.heap.size, 1, none⟩ = some (.slice Au c.vers.length cu) := hbox8.cell 1
          have HS8 := Lib.hid hS8
          have Hbox8 := Lib.hid hbox8
          clear hS8 hbox8 a0 a2 a3 a4 a5 a6 a7 a8 a9 a10 a11
          go_wp2
          go_loopw [5, 6, 63] (fun _ _ i wi => ∃ j : Nat, i = .int .i64 j ∧ j ≤ c.vers.length ∧ Same (fun _ => True) W8 wi) (fun _ _ i _ => c.vers.length - (intOf i).toNat)
          case atStart => exact ⟨0, rfl, Nat.zero_le _, Same.refl _ _⟩
          case round =>
            obtain ⟨j, rfl, hj, hSi⟩ := hrel
            have HSi := Lib.hid hSi
            have a1 : wr.cell? ⟨wo.heap.size, 1, none⟩ = some (.slice Au c.vers.length cu) := (Hbox8.out.keep hSi trivial).cell 1
            have z7 := (Hbox8.out.keep hSi trivial).lt
            clear hSi
            by_cases hjl : j < c.vers.length
            · rcases j with _ | i2
              · obtain ⟨ad2, rfl, -, d0, d1, d2, d3⟩ := VerR.cells (RowR.keepAll Hvr.out (HS8.out.trans HSi.out)) hjl
                have hvd := Hgc.out.vers c.vers[0] (List.getElem_mem hjl)
                have x3 : (0 : Int) ≤ ((0 : Nat) : Int) := by omega
                have x4 : ((0 : Nat) : Int) < (c.vers.length : Int) := by omega
                simp only [Nat.zero_mul, add_zero] at d0 d1 d2 d3
                have hab2 := World.block_lt_of_cell? wr _ d0
                go_wp2
                obtain ⟨Y, hY⟩ : ∃ Y, Y = c.vers[0] := ⟨_, rfl⟩
                have rv := Row.new wr 69 (verCs c.vers[0])
                have hS9 := (Same.refl (fun _ => True) wr).alloc (.cells (verCs c.vers[0]).toArray 69)
                simp only [verCs] at rv hS9
                clear d0 d1 d2 d3 hab2
                revert rv hS9
                generalize wr.alloc (.cells _ 69) = W9
                intro rv hS9
                have b0 : W9.cell? ⟨wr.heap.size, 0, none⟩ = some (.int .i64 c.vers[0].at_.wall) := rv.cell 0
                have b1 : W9.cell? ⟨wr.heap.size, 1, none⟩ = some (.int .i64 c.vers[0].at_.tie) := rv.cell 1
                have b2 : W9.cell? ⟨wr.heap.size, 2, none⟩ = some (.bool c.vers[0].drop) := rv.cell 2
                have b3 : W9.cell? ⟨wr.heap.size, 3, none⟩ = some (.string (str c.vers[0].data)) := rv.cell 3
                have z9 := rv.lt
                have a1 : W9.cell? ⟨wo.heap.size, 1, none⟩ = some (.slice (some ad2) c.vers.length cu) := hS9.cell (p := ⟨wo.heap.size, 1, none⟩) trivial a1
                have HS9 := Lib.hid hS9
                clear rv hS9 hY
                generalize c.vers[0] = y at *
                cases hdr : y.drop
                · rw [hdr] at b2
                  clear hvd hdr
                  go_wp2
                  refine wp_region_eq_lit (vs := [(.int .i64 0), (.bool false), (.bool false), undef, undef, undef, undef, undef, undef, undef, undef, undef, undef, undef, (.bool false), (.bool false), (.pointer (some ⟨wr.heap.size, 2, none⟩)), (.bool false), (.bool false), undef, undef, undef, (.bool false), (.bool false)]) (by kernel_rfl) (by kernel_rfl) rfl rfl ?_ ?_
                  · refine ⟨?_, ?_, ?_, ?_, ?_, ?_, ?_, ?_, ?_, ?_, ?_, ?_, ?_, ?_, ?_, ?_, ?_, ?_, ?_, ?_, ?_, ?_, ?_, ?_, trivial⟩
                    · intro ac wc hs hd hz hf hw K hK
                      have e0 : ac.eval (.tmp 5) = (.int .i64 0) := hf 5 rfl
                      clear hd hz hf hw
                      simp only [Region.wanted, if_true, Oper.wp, execOp, resolve, List.map_toArray, List.map_cons, List.map_nil, Option.map_some, Option.map_none, e0]
                      go_simp
                      exact hK _ _ rfl (Same.refl _ _)
                    · intro ac wc hs hd hz hf hw K hK
                      have e0 : ac.eval (.tmp 68) = (.int .i64 0) := hw 0 rfl
                      clear hd hz hf hw
                      simp only [Region.wanted, if_true, Oper.wp, execOp, resolve, List.map_toArray, List.map_cons, List.map_nil, Option.map_some, Option.map_none, e0]
                      go_simp
                      exact hK _ _ rfl (Same.refl _ _)
                    · intro ac wc hs hd hz hf hw K hK
                      have e0 : ac.eval (.tmp 69) = (.bool false) := hw 1 rfl
                      clear hd hz hf hw
                      simp only [Region.wanted, if_true, Oper.wp, execOp, resolve, List.map_toArray, List.map_cons, List.map_nil, Option.map_some, Option.map_none, e0]
                      go_simp
                      exact hK _ _ rfl (Same.refl _ _)
                    · intro ac wc hs hd hz hf hw K hK
                      have eg : ac.eval (.tmp 70) = .bool false := hw 2 rfl
                      refine skip_wanted (j := 2) (d := 70) (b := false) rfl rfl hz (of_decide_eq_true rfl) eg ?_
                      clear eg
                      exact hK _ _ rfl (Same.refl _ _)
                    · intro ac wc hs hd hz hf hw K hK
                      have eg : ac.eval (.tmp 70) = .bool false := hw 2 rfl
                      refine skip_wanted (j := 2) (d := 70) (b := false) rfl rfl hz (of_decide_eq_true rfl) eg ?_
                      clear eg
                      exact hK _ _ rfl (Same.refl _ _)
                    · intro ac wc hs hd hz hf hw K hK
                      have eg : ac.eval (.tmp 70) = .bool false := hw 2 rfl
                      refine skip_wanted (j := 2) (d := 70) (b := false) rfl rfl hz (of_decide_eq_true rfl) eg ?_
                      clear eg
                      exact hK _ _ rfl (Same.refl _ _)
                    · intro ac wc hs hd hz hf hw K hK
                      have eg : ac.eval (.tmp 70) = .bool false := hw 2 rfl
                      refine skip_wanted (j := 2) (d := 70) (b := false) rfl rfl hz (of_decide_eq_true rfl) eg ?_
                      clear eg
                      exact hK _ _ rfl (Same.refl _ _)
                    · intro ac wc hs hd hz hf hw K hK
                      have eg : ac.eval (.tmp 70) = .bool false := hw 2 rfl
                      refine skip_wanted (j := 2) (d := 70) (b := false) rfl rfl hz (of_decide_eq_true rfl) eg ?_
                      clear eg
                      exact hK _ _ rfl (Same.refl _ _)
                    · intro ac wc hs hd hz hf hw K hK
                      have eg : ac.eval (.tmp 70) = .bool false := hw 2 rfl
                      refine skip_wanted (j := 2) (d := 70) (b := false) rfl rfl hz (of_decide_eq_true rfl) eg ?_
                      clear eg
                      exact hK _ _ rfl (Same.refl _ _)
                    · intro ac wc hs hd hz hf hw K hK
                      have eg : ac.eval (.tmp 70) = .bool false := hw 2 rfl
                      refine skip_wanted (j := 2) (d := 70) (b := false) rfl rfl hz (of_decide_eq_true rfl) eg ?_
                      clear eg
                      exact hK _ _ rfl (Same.refl _ _)
                    · intro ac wc hs hd hz hf hw K hK
                      have eg : ac.eval (.tmp 70) = .bool false := hw 2 rfl
                      refine skip_wanted (j := 2) (d := 70) (b := false) rfl rfl hz (of_decide_eq_true rfl) eg ?_
                      clear eg
                      exact hK _ _ rfl (Same.refl _ _)
                    · intro ac wc hs hd hz hf hw K hK
                      have eg : ac.eval (.tmp 70) = .bool false := hw 2 rfl
                      refine skip_wanted (j := 2) (d := 70) (b := false) rfl rfl hz (of_decide_eq_true rfl) eg ?_
                      clear eg
                      exact hK _ _ rfl (Same.refl _ _)
                    · intro ac wc hs hd hz hf hw K hK
                      have eg : ac.eval (.tmp 70) = .bool false := hw 2 rfl
                      refine skip_wanted (j := 2) (d := 70) (b := false) rfl rfl hz (of_decide_eq_true rfl) eg ?_
                      clear eg
                      exact hK _ _ rfl (Same.refl _ _)
                    · intro ac wc hs hd hz hf hw K hK
                      have eg : ac.eval (.tmp 70) = .bool false := hw 2 rfl
                      refine skip_wanted (j := 2) (d := 70) (b := false) rfl rfl hz (of_decide_eq_true rfl) eg ?_
                      clear eg
                      exact hK _ _ rfl (Same.refl _ _)
                    · intro ac wc hs hd hz hf hw K hK
                      have e0 : ac.eval (.tmp 70) = (.bool false) := hw 2 rfl
                      have e1 : ac.eval (.tmp 81) = undef := hw 13 rfl
                      clear hd hz hf hw
                      simp only [Region.wanted, if_true, Oper.wp, execOp, resolve, List.map_toArray, List.map_cons, List.map_nil, Option.map_some, Option.map_none, e0, e1]
                      go_simp
                      exact hK _ _ rfl (Same.refl _ _)
                    · intro ac wc hs hd hz hf hw K hK
                      have e0 : ac.eval (.tmp 82) = (.bool false) := hw 14 rfl
                      clear hd hz hf hw
                      simp only [Region.wanted, if_true, Oper.wp, execOp, resolve, List.map_toArray, List.map_cons, List.map_nil, Option.map_some, Option.map_none, e0]
                      go_simp
                      exact hK _ _ rfl (Same.refl _ _)
                    · intro ac wc hs hd hz hf hw K hK
                      have eg : ac.eval (.tmp 83) = .bool false := hw 15 rfl
                      refine run_wanted (j := 15) (d := 83) (b := false) rfl rfl hz (of_decide_eq_true rfl) eg ?_
                      clear eg
                      have e0 : ac.eval (.tmp 6) = (.pointer (some ⟨wr.heap.size, 0, none⟩)) := hf 6 rfl
                      clear hd hz hf hw
                      simp only [Oper.wp, execOp, resolve, List.map_toArray, List.map_cons, List.map_nil, Option.map_some, Option.map_none, e0]
                      go_simp
                      exact hK _ _ rfl (Same.refl _ _)
                    · intro ac wc hs hd hz hf hw K hK
                      have eg : ac.eval (.tmp 83) = .bool false := hw 15 rfl
                      refine run_wanted (j := 15) (d := 83) (b := false) rfl rfl hz (of_decide_eq_true rfl) eg ?_
                      clear eg
                      have e0 : ac.eval (.tmp 84) = (.pointer (some ⟨wr.heap.size, 2, none⟩)) := hw 16 rfl
                      have m0 : wc.cell? ⟨wr.heap.size, 2, none⟩ = some (.bool false) := hs.cell (p := ⟨wr.heap.size, 2, none⟩) trivial b2
                      clear hd hz hf hw
                      simp only [Oper.wp, execOp, resolve, List.map_toArray, List.map_cons, List.map_nil, Option.map_some, Option.map_none, e0]
                      go_simp
                      exact hK _ _ rfl (Same.refl _ _)
                    · intro ac wc hs hd hz hf hw K hK
                      have eg : ac.eval (.tmp 83) = .bool false := hw 15 rfl
                      refine run_wanted (j := 15) (d := 83) (b := false) rfl rfl hz (of_decide_eq_true rfl) eg ?_
                      clear eg
                      have e0 : ac.eval (.tmp 85) = (.bool false) := hw 17 rfl
                      clear hd hz hf hw
                      simp only [Oper.wp, execOp, resolve, List.map_toArray, List.map_cons, List.map_nil, Option.map_some, Option.map_none, e0]
                      go_simp
                      exact hK _ _ rfl (Same.refl _ _)
                    · intro ac wc hs hd hz hf hw K hK
                      have eg : ac.eval (.tmp 86) = .bool false := hw 18 rfl
                      refine skip_wanted (j := 18) (d := 86) (b := false) rfl rfl hz (of_decide_eq_true rfl) eg ?_
                      clear eg
                      exact hK _ _ rfl (Same.refl _ _)
                    · intro ac wc hs hd hz hf hw K hK
                      have eg : ac.eval (.tmp 86) = .bool false := hw 18 rfl
                      refine skip_wanted (j := 18) (d := 86) (b := false) rfl rfl hz (of_decide_eq_true rfl) eg ?_
                      clear eg
                      exact hK _ _ rfl (Same.refl _ _)
                    · intro ac wc hs hd hz hf hw K hK
                      have eg : ac.eval (.tmp 86) = .bool false := hw 18 rfl
                      refine skip_wanted (j := 18) (d := 86) (b := false) rfl rfl hz (of_decide_eq_true rfl) eg ?_
                      clear eg
                      exact hK _ _ rfl (Same.refl _ _)
                    · intro ac wc hs hd hz hf hw K hK
                      have eg : ac.eval (.tmp 83) = .bool false := hw 15 rfl
                      refine run_wanted (j := 15) (d := 83) (b := false) rfl rfl hz (of_decide_eq_true rfl) eg ?_
                      clear eg
                      have e0 : ac.eval (.tmp 86) = (.bool false) := hw 18 rfl
                      have e1 : ac.eval (.tmp 89) = undef := hw 21 rfl
                      clear hd hz hf hw
                      simp only [Oper.wp, execOp, resolve, List.map_toArray, List.map_cons, List.map_nil, Option.map_some, Option.map_none, e0, e1]
                      go_simp
                      exact hK _ _ rfl (Same.refl _ _)
                    · intro ac wc hs hd hz hf hw K hK
                      have e0 : ac.eval (.tmp 83) = (.bool false) := hw 15 rfl
                      have e1 : ac.eval (.tmp 90) = (.bool false) := hw 22 rfl
                      clear hd hz hf hw
                      simp only [Region.wanted, if_true, Oper.wp, execOp, resolve, List.map_toArray, List.map_cons, List.map_nil, Option.map_some, Option.map_none, e0, e1]
                      go_simp
                      exact hK _ _ rfl (Same.refl _ _)
                  · intro wR hsR
                    simp only [putAll, Act.put, List.setIfInBounds_toArray, List.set_cons_succ, List.set_cons_zero]
                    go_wp2
                    go_roundw
                    case rel => exact ⟨1, by go_num, by omega, (HSi.out.trans HS9.out).trans hsR⟩
                    case measure => simp [intOf]; omega
                · rw [hdr] at b2
                  rw [hvd hdr] at b3
                  have b3 : W9.cell? ⟨wr.heap.size, 3, none⟩ = some (.string ⟨#[]⟩) := b3
                  clear hvd hdr
                  go_wp2
                  refine wp_region_eq_lit (vs := [(.int .i64 0), (.bool false), (.bool false), undef, undef, undef, undef, undef, undef, undef, undef, undef, undef, undef, (.bool false), (.bool false), (.pointer (some ⟨wr.heap.size, 2, none⟩)), (.bool true), (.bool true), (.pointer (some ⟨wr.heap.size, 3, none⟩)), (.string ⟨#[]⟩), (.bool false), (.bool false), (.bool false)]) (by kernel_rfl) (by kernel_rfl) rfl rfl ?_ ?_
                  · refine ⟨?_, ?_, ?_, ?_, ?_, ?_, ?_, ?_, ?_, ?_, ?_, ?_, ?_, ?_, ?_, ?_, ?_, ?_, ?_, ?_, ?_, ?_, ?_, ?_, trivial⟩
                    · intro ac wc hs hd hz hf hw K hK
                      have e0 : ac.eval (.tmp 5) = (.int .i64 0) := hf 5 rfl
                      clear hd hz hf hw
                      simp only [Region.wanted, if_true, Oper.wp, execOp, resolve, List.map_toArray, List.map_cons, List.map_nil, Option.map_some, Option.map_none, e0]
                      go_simp
                      exact hK _ _ rfl (Same.refl _ _)
                    · intro ac wc hs hd hz hf hw K hK
                      have e0 : ac.eval (.tmp 68) = (.int .i64 0) := hw 0 rfl
                      clear hd hz hf hw
                      simp only [Region.wanted, if_true, Oper.wp, execOp, resolve, List.map_toArray, List.map_cons, List.map_nil, Option.map_some, Option.map_none, e0]
                      go_simp
                      exact hK _ _ rfl (Same.refl _ _)
                    · intro ac wc hs hd hz hf hw K hK
                      have e0 : ac.eval (.tmp 69) = (.bool false) := hw 1 rfl
                      clear hd hz hf hw
                      simp only [Region.wanted, if_true, Oper.wp, execOp, resolve, List.map_toArray, List.map_cons, List.map_nil, Option.map_some, Option.map_none, e0]
                      go_simp
                      exact hK _ _ rfl (Same.refl _ _)
                    · intro ac wc hs hd hz hf hw K hK
                      have eg : ac.eval (.tmp 70) = .bool false := hw 2 rfl
                      refine skip_wanted (j := 2) (d := 70) (b := false) rfl rfl hz (of_decide_eq_true rfl) eg ?_
                      clear eg
                      exact hK _ _ rfl (Same.refl _ _)
                    · intro ac wc hs hd hz hf hw K hK
                      have eg : ac.eval (.tmp 70) = .bool false := hw 2 rfl
                      refine skip_wanted (j := 2) (d := 70) (b := false) rfl rfl hz (of_decide_eq_true rfl) eg ?_
                      clear eg
                      exact hK _ _ rfl (Same.refl _ _)
                    · intro ac wc hs hd hz hf hw K hK
                      have eg : ac.eval (.tmp 70) = .bool false := hw 2 rfl
                      refine skip_wanted (j := 2) (d := 70) (b := false) rfl rfl hz (of_decide_eq_true rfl) eg ?_
                      clear eg
                      exact hK _ _ rfl (Same.refl _ _)
                    · intro ac wc hs hd hz hf hw K hK
                      have eg : ac.eval (.tmp 70) = .bool false := hw 2 rfl
                      refine skip_wanted (j := 2) (d := 70) (b := false) rfl rfl hz (of_decide_eq_true rfl) eg ?_
                      clear eg
                      exact hK _ _ rfl (Same.refl _ _)
                    · intro ac wc hs hd hz hf hw K hK
                      have eg : ac.eval (.tmp 70) = .bool false := hw 2 rfl
                      refine skip_wanted (j := 2) (d := 70) (b := false) rfl rfl hz (of_decide_eq_true rfl) eg ?_
                      clear eg
                      exact hK _ _ rfl (Same.refl _ _)
                    · intro ac wc hs hd hz hf hw K hK
                      have eg : ac.eval (.tmp 70) = .bool false := hw 2 rfl
                      refine skip_wanted (j := 2) (d := 70) (b := false) rfl rfl hz (of_decide_eq_true rfl) eg ?_
                      clear eg
                      exact hK _ _ rfl (Same.refl _ _)
                    · intro ac wc hs hd hz hf hw K hK
                      have eg : ac.eval (.tmp 70) = .bool false := hw 2 rfl
                      refine skip_wanted (j := 2) (d := 70) (b := false) rfl rfl hz (of_decide_eq_true rfl) eg ?_
                      clear eg
                      exact hK _ _ rfl (Same.refl _ _)
                    · intro ac wc hs hd hz hf hw K hK
                      have eg : ac.eval (.tmp 70) = .bool false := hw 2 rfl
                      refine skip_wanted (j := 2) (d := 70) (b := false) rfl rfl hz (of_decide_eq_true rfl) eg ?_
                      clear eg
                      exact hK _ _ rfl (Same.refl _ _)
                    · intro ac wc hs hd hz hf hw K hK
                      have eg : ac.eval (.tmp 70) = .bool false := hw 2 rfl
                      refine skip_wanted (j := 2) (d := 70) (b := false) rfl rfl hz (of_decide_eq_true rfl) eg ?_
                      clear eg
                      exact hK _ _ rfl (Same.refl _ _)
                    · intro ac wc hs hd hz hf hw K hK
                      have eg : ac.eval (.tmp 70) = .bool false := hw 2 rfl
                      refine skip_wanted (j := 2) (d := 70) (b := false) rfl rfl hz (of_decide_eq_true rfl) eg ?_
                      clear eg
                      exact hK _ _ rfl (Same.refl _ _)
                    · intro ac wc hs hd hz hf hw K hK
                      have eg : ac.eval (.tmp 70) = .bool false := hw 2 rfl
                      refine skip_wanted (j := 2) (d := 70) (b := false) rfl rfl hz (of_decide_eq_true rfl) eg ?_
                      clear eg
                      exact hK _ _ rfl (Same.refl _ _)
                    · intro ac wc hs hd hz hf hw K hK
                      have e0 : ac.eval (.tmp 70) = (.bool false) := hw 2 rfl
                      have e1 : ac.eval (.tmp 81) = undef := hw 13 rfl
                      clear hd hz hf hw
                      simp only [Region.wanted, if_true, Oper.wp, execOp, resolve, List.map_toArray, List.map_cons, List.map_nil, Option.map_some, Option.map_none, e0, e1]
                      go_simp
                      exact hK _ _ rfl (Same.refl _ _)
                    · intro ac wc hs hd hz hf hw K hK
                      have e0 : ac.eval (.tmp 82) = (.bool false) := hw 14 rfl
                      clear hd hz hf hw
                      simp only [Region.wanted, if_true, Oper.wp, execOp, resolve, List.map_toArray, List.map_cons, List.map_nil, Option.map_some, Option.map_none, e0]
                      go_simp
                      exact hK _ _ rfl (Same.refl _ _)
                    · intro ac wc hs hd hz hf hw K hK
                      have eg : ac.eval (.tmp 83) = .bool false := hw 15 rfl
                      refine run_wanted (j := 15) (d := 83) (b := false) rfl rfl hz (of_decide_eq_true rfl) eg ?_
                      clear eg
                      have e0 : ac.eval (.tmp 6) = (.pointer (some ⟨wr.heap.size, 0, none⟩)) := hf 6 rfl
                      clear hd hz hf hw
                      simp only [Oper.wp, execOp, resolve, List.map_toArray, List.map_cons, List.map_nil, Option.map_some, Option.map_none, e0]
                      go_simp
                      exact hK _ _ rfl (Same.refl _ _)
                    · intro ac wc hs hd hz hf hw K hK
                      have eg : ac.eval (.tmp 83) = .bool false := hw 15 rfl
                      refine run_wanted (j := 15) (d := 83) (b := false) rfl rfl hz (of_decide_eq_true rfl) eg ?_
                      clear eg
                      have e0 : ac.eval (.tmp 84) = (.pointer (some ⟨wr.heap.size, 2, none⟩)) := hw 16 rfl
                      have m0 : wc.cell? ⟨wr.heap.size, 2, none⟩ = some (.bool true) := hs.cell (p := ⟨wr.heap.size, 2, none⟩) trivial b2
                      clear hd hz hf hw
                      simp only [Oper.wp, execOp, resolve, List.map_toArray, List.map_cons, List.map_nil, Option.map_some, Option.map_none, e0]
                      go_simp
                      exact hK _ _ rfl (Same.refl _ _)
                    · intro ac wc hs hd hz hf hw K hK
                      have eg : ac.eval (.tmp 83) = .bool false := hw 15 rfl
                      refine run_wanted (j := 15) (d := 83) (b := false) rfl rfl hz (of_decide_eq_true rfl) eg ?_
                      clear eg
                      have e0 : ac.eval (.tmp 85) = (.bool true) := hw 17 rfl
                      clear hd hz hf hw
                      simp only [Oper.wp, execOp, resolve, List.map_toArray, List.map_cons, List.map_nil, Option.map_some, Option.map_none, e0]
                      go_simp
                      exact hK _ _ rfl (Same.refl _ _)
                    · intro ac wc hs hd hz hf hw K hK
                      have eg : ac.eval (.tmp 86) = .bool true := hw 18 rfl
                      refine run_wanted (j := 18) (d := 86) (b := true) rfl rfl hz (of_decide_eq_true rfl) eg ?_
                      clear eg
                      have e0 : ac.eval (.tmp 6) = (.pointer (some ⟨wr.heap.size, 0, none⟩)) := hf 6 rfl
                      clear hd hz hf hw
                      simp only [Oper.wp, execOp, resolve, List.map_toArray, List.map_cons, List.map_nil, Option.map_some, Option.map_none, e0]
                      go_simp
                      exact hK _ _ rfl (Same.refl _ _)
                    · intro ac wc hs hd hz hf hw K hK
                      have eg : ac.eval (.tmp 86) = .bool true := hw 18 rfl
                      refine run_wanted (j := 18) (d := 86) (b := true) rfl rfl hz (of_decide_eq_true rfl) eg ?_
                      clear eg
                      have e0 : ac.eval (.tmp 87) = (.pointer (some ⟨wr.heap.size, 3, none⟩)) := hw 19 rfl
                      have m0 : wc.cell? ⟨wr.heap.size, 3, none⟩ = some (.string ⟨#[]⟩) := hs.cell (p := ⟨wr.heap.size, 3, none⟩) trivial b3
                      clear hd hz hf hw
                      simp only [Oper.wp, execOp, resolve, List.map_toArray, List.map_cons, List.map_nil, Option.map_some, Option.map_none, e0]
                      go_simp
                      exact hK _ _ rfl (Same.refl _ _)
                    · intro ac wc hs hd hz hf hw K hK
                      have eg : ac.eval (.tmp 86) = .bool true := hw 18 rfl
                      refine run_wanted (j := 18) (d := 86) (b := true) rfl rfl hz (of_decide_eq_true rfl) eg ?_
                      clear eg
                      have e0 : ac.eval (.tmp 88) = (.string ⟨#[]⟩) := hw 20 rfl
                      clear hd hz hf hw
                      simp only [Oper.wp, execOp, resolve, List.map_toArray, List.map_cons, List.map_nil, Option.map_some, Option.map_none, e0]
                      go_simp
                      exact hK _ _ rfl (Same.refl _ _)
                    · intro ac wc hs hd hz hf hw K hK
                      have eg : ac.eval (.tmp 83) = .bool false := hw 15 rfl
                      refine run_wanted (j := 15) (d := 83) (b := false) rfl rfl hz (of_decide_eq_true rfl) eg ?_
                      clear eg
                      have e0 : ac.eval (.tmp 86) = (.bool true) := hw 18 rfl
                      have e1 : ac.eval (.tmp 89) = (.bool false) := hw 21 rfl
                      clear hd hz hf hw
                      simp only [Oper.wp, execOp, resolve, List.map_toArray, List.map_cons, List.map_nil, Option.map_some, Option.map_none, e0, e1]
                      go_simp
                      exact hK _ _ rfl (Same.refl _ _)
                    · intro ac wc hs hd hz hf hw K hK
                      have e0 : ac.eval (.tmp 83) = (.bool false) := hw 15 rfl
                      have e1 : ac.eval (.tmp 90) = (.bool false) := hw 22 rfl
                      clear hd hz hf hw
                      simp only [Region.wanted, if_true, Oper.wp, execOp, resolve, List.map_toArray, List.map_cons, List.map_nil, Option.map_some, Option.map_none, e0, e1]
                      go_simp
                      exact hK _ _ rfl (Same.refl _ _)
                  · intro wR hsR
                    simp only [putAll, Act.put, List.setIfInBounds_toArray, List.set_cons_succ, List.set_cons_zero]
                    go_wp2
                    go_roundw
                    case rel => exact ⟨1, by go_num, by omega, (HSi.out.trans HS9.out).trans hsR⟩
                    case measure => simp [intOf]; omega
              · obtain ⟨ad2, rfl, -, d0, d1, d2, d3⟩ := VerR.cells (RowR.keepAll Hvr.out (HS8.out.trans HSi.out)) hjl
                have hvd := Hgc.out.vers c.vers[i2 + 1] (List.getElem_mem hjl)
                have x3 : (0 : Int) ≤ ((i2 + 1 : Nat) : Int) := by omega
                have x4 : ((i2 + 1 : Nat) : Int) < (c.vers.length : Int) := by omega
                have hab2 := World.block_lt_of_cell? wr _ d0
                have x3 : (0 : Int) ≤ (i2 : Int) + 1 := by omega
                have x4 : (i2 : Int) + 1 < (c.vers.length : Int) := by omega
                go_wp2
                obtain ⟨Y, hY⟩ : ∃ Y, Y = c.vers[i2 + 1] := ⟨_, rfl⟩
                have rv := Row.new wr 69 (verCs c.vers[i2 + 1])
                have hS9 := (Same.refl (fun _ => True) wr).alloc (.cells (verCs c.vers[i2 + 1]).toArray 69)
                simp only [verCs] at rv hS9
                clear d0 d1 d2 d3 hab2
                revert rv hS9
                generalize wr.alloc (.cells _ 69) = W9
                intro rv hS9
                have b0 : W9.cell? ⟨wr.heap.size, 0, none⟩ = some (.int .i64 c.vers[i2 + 1].at_.wall) := rv.cell 0
                have b1 : W9.cell? ⟨wr.heap.size, 1, none⟩ = some (.int .i64 c.vers[i2 + 1].at_.tie) := rv.cell 1
                have b2 : W9.cell? ⟨wr.heap.size, 2, none⟩ = some (.bool c.vers[i2 + 1].drop) := rv.cell 2
                have b3 : W9.cell? ⟨wr.heap.size, 3, none⟩ = some (.string (str c.vers[i2 + 1].data)) := rv.cell 3
                have z9 := rv.lt
                have a1 : W9.cell? ⟨wo.heap.size, 1, none⟩ = some (.slice (some ad2) c.vers.length cu) := hS9.cell (p := ⟨wo.heap.size, 1, none⟩) trivial a1
                have HS9 := Lib.hid hS9
                clear rv hS9 hY
                obtain ⟨ad2', e2', -, p0, p1, -, -⟩ := VerR.cells (RowR.keepAll Hvr.out (HS8.out.trans HSi.out)) (i := i2) (by omega)
                injection e2' with e2'
                subst e2'
                have hls : lessB c.vers[i2].at_ c.vers[i2 + 1].at_ = true := List.pairwise_iff_getElem.1 Hgc.out.sort i2 (i2 + 1) (by omega) hjl (by omega)
                have gl := fun W => stless_any c.vers[i2].at_ c.vers[i2 + 1].at_ W
                rw [hls] at gl
                generalize c.vers[i2] = yp at *
                have x5 : (0 : Int) ≤ (i2 : Int) := by omega
                have x6 : (i2 : Int) < (c.vers.length : Int) := by omega
                have x7 : (0 : Int) < (i2 : Int) + 1 := by omega
                have x8 : IntKind.i64.wrap (i2 : Int) = (i2 : Int) := by rw [IntKind.wrap_i64]; omega
                have p0 := HS9.out.cell (p := (ad2.add (i2 * 4))) trivial p0
                have p1 := HS9.out.cell (p := ⟨(ad2.add (i2 * 4)).block, (ad2.add (i2 * 4)).off + 1, none⟩) trivial p1
                clear hls
                generalize c.vers[i2 + 1] = y at *
                cases hdr : y.drop
                · rw [hdr] at b2
                  clear hvd hdr
                  go_wp2
                  refine wp_region_eq_lit (vs := [(.int .i64 ((i2 : Int) + 1)), (.bool true), (.bool true), (.pointer (some ⟨wo.heap.size, 1, none⟩)), (.slice (some ad2) c.vers.length cu), (.int .i64 ((i2 : Int) + 1)), (.int .i64 i2), (.pointer (some (ad2.add (i2 * 4)))), (.pointer (some (ad2.add (i2 * 4)))), (stV yp.at_), (.pointer (some ⟨wr.heap.size, 0, none⟩)), (stV y.at_), (.bool true), (.bool false), (.bool false), (.bool false), (.pointer (some ⟨wr.heap.size, 2, none⟩)), (.bool false), (.bool false), undef, undef, undef, (.bool false), (.bool false)]) (by kernel_rfl) (by kernel_rfl) rfl rfl ?_ ?_
                  · refine ⟨?_, ?_, ?_, ?_, ?_, ?_, ?_, ?_, ?_, ?_, ?_, ?_, ?_, ?_, ?_, ?_, ?_, ?_, ?_, ?_, ?_, ?_, ?_, ?_, trivial⟩
                    · intro ac wc hs hd hz hf hw K hK
                      have e0 : ac.eval (.tmp 5) = (.int .i64 ((i2 : Int) + 1)) := hf 5 rfl
                      clear hd hz hf hw
                      simp only [Region.wanted, if_true, Oper.wp, execOp, resolve, List.map_toArray, List.map_cons, List.map_nil, Option.map_some, Option.map_none, e0]
                      go_simp
                      exact hK _ _ rfl (Same.refl _ _)
                    · intro ac wc hs hd hz hf hw K hK
                      have e0 : ac.eval (.tmp 68) = (.int .i64 ((i2 : Int) + 1)) := hw 0 rfl
                      clear hd hz hf hw
                      simp only [Region.wanted, if_true, Oper.wp, execOp, resolve, List.map_toArray, List.map_cons, List.map_nil, Option.map_some, Option.map_none, e0]
                      go_simp
                      exact hK _ _ rfl (Same.refl _ _)
                    · intro ac wc hs hd hz hf hw K hK
                      have e0 : ac.eval (.tmp 69) = (.bool true) := hw 1 rfl
                      clear hd hz hf hw
                      simp only [Region.wanted, if_true, Oper.wp, execOp, resolve, List.map_toArray, List.map_cons, List.map_nil, Option.map_some, Option.map_none, e0]
                      go_simp
                      exact hK _ _ rfl (Same.refl _ _)
                    · intro ac wc hs hd hz hf hw K hK
                      have eg : ac.eval (.tmp 70) = .bool true := hw 2 rfl
                      refine run_wanted (j := 2) (d := 70) (b := true) rfl rfl hz (of_decide_eq_true rfl) eg ?_
                      clear eg
                      have e0 : ac.eval (.tmp 4) = (.pointer (some ⟨wo.heap.size, 0, none⟩)) := hf 4 rfl
                      clear hd hz hf hw
                      simp only [Oper.wp, execOp, resolve, List.map_toArray, List.map_cons, List.map_nil, Option.map_some, Option.map_none, e0]
                      go_simp
                      exact hK _ _ rfl (Same.refl _ _)
                    · intro ac wc hs hd hz hf hw K hK
                      have eg : ac.eval (.tmp 70) = .bool true := hw 2 rfl
                      refine run_wanted (j := 2) (d := 70) (b := true) rfl rfl hz (of_decide_eq_true rfl) eg ?_
                      clear eg
                      have e0 : ac.eval (.tmp 71) = (.pointer (some ⟨wo.heap.size, 1, none⟩)) := hw 3 rfl
                      have m0 : wc.cell? ⟨wo.heap.size, 1, none⟩ = some (.slice (some ad2) c.vers.length cu) := hs.cell (p := ⟨wo.heap.size, 1, none⟩) trivial a1
                      clear hd hz hf hw
                      simp only [Oper.wp, execOp, resolve, List.map_toArray, List.map_cons, List.map_nil, Option.map_some, Option.map_none, e0]
                      go_simp
                      exact hK _ _ rfl (Same.refl _ _)
                    · intro ac wc hs hd hz hf hw K hK
                      have eg : ac.eval (.tmp 70) = .bool true := hw 2 rfl
                      refine run_wanted (j := 2) (d := 70) (b := true) rfl rfl hz (of_decide_eq_true rfl) eg ?_
                      clear eg
                      have e0 : ac.eval (.tmp 5) = (.int .i64 ((i2 : Int) + 1)) := hf 5 rfl
                      clear hd hz hf hw
                      simp only [Oper.wp, execOp, resolve, List.map_toArray, List.map_cons, List.map_nil, Option.map_some, Option.map_none, e0]
                      go_simp
                      exact hK _ _ rfl (Same.refl _ _)
                    · intro ac wc hs hd hz hf hw K hK
                      have eg : ac.eval (.tmp 70) = .bool true := hw 2 rfl
                      refine run_wanted (j := 2) (d := 70) (b := true) rfl rfl hz (of_decide_eq_true rfl) eg ?_
                      clear eg
                      have e0 : ac.eval (.tmp 73) = (.int .i64 ((i2 : Int) + 1)) := hw 5 rfl
                      clear hd hz hf hw
                      simp only [Oper.wp, execOp, resolve, List.map_toArray, List.map_cons, List.map_nil, Option.map_some, Option.map_none, e0]
                      go_simp
                      exact hK _ _ rfl (Same.refl _ _)
                    · intro ac wc hs hd hz hf hw K hK
                      have eg : ac.eval (.tmp 70) = .bool true := hw 2 rfl
                      refine run_wanted (j := 2) (d := 70) (b := true) rfl rfl hz (of_decide_eq_true rfl) eg ?_
                      clear eg
                      have e0 : ac.eval (.tmp 72) = (.slice (some ad2) c.vers.length cu) := hw 4 rfl
                      have e1 : ac.eval (.tmp 74) = (.int .i64 i2) := hw 6 rfl
                      clear hd hz hf hw
                      simp only [Oper.wp, execOp, resolve, List.map_toArray, List.map_cons, List.map_nil, Option.map_some, Option.map_none, e0, e1]
                      go_simp
                      exact hK _ _ rfl (Same.refl _ _)
                    · intro ac wc hs hd hz hf hw K hK
                      have eg : ac.eval (.tmp 70) = .bool true := hw 2 rfl
                      refine run_wanted (j := 2) (d := 70) (b := true) rfl rfl hz (of_decide_eq_true rfl) eg ?_
                      clear eg
                      have e0 : ac.eval (.tmp 75) = (.pointer (some (ad2.add (i2 * 4)))) := hw 7 rfl
                      clear hd hz hf hw
                      simp only [Oper.wp, execOp, resolve, List.map_toArray, List.map_cons, List.map_nil, Option.map_some, Option.map_none, e0]
                      go_simp
                      exact hK _ _ rfl (Same.refl _ _)
                    · intro ac wc hs hd hz hf hw K hK
                      have eg : ac.eval (.tmp 70) = .bool true := hw 2 rfl
                      refine run_wanted (j := 2) (d := 70) (b := true) rfl rfl hz (of_decide_eq_true rfl) eg ?_
                      clear eg
                      have e0 : ac.eval (.tmp 76) = (.pointer (some (ad2.add (i2 * 4)))) := hw 8 rfl
                      have m0 : wc.cell? (ad2.add (i2 * 4)) = some (.int .i64 yp.at_.wall) := hs.cell (p := (ad2.add (i2 * 4))) trivial p0
                      have m1 : wc.cell? ⟨(ad2.add (i2 * 4)).block, (ad2.add (i2 * 4)).off + 1, none⟩ = some (.int .i64 yp.at_.tie) := hs.cell (p := ⟨(ad2.add (i2 * 4)).block, (ad2.add (i2 * 4)).off + 1, none⟩) trivial p1
                      clear hd hz hf hw
                      simp only [Oper.wp, execOp, resolve, List.map_toArray, List.map_cons, List.map_nil, Option.map_some, Option.map_none, e0]
                      go_simp
                      exact hK _ _ rfl (Same.refl _ _)
                    · intro ac wc hs hd hz hf hw K hK
                      have eg : ac.eval (.tmp 70) = .bool true := hw 2 rfl
                      refine run_wanted (j := 2) (d := 70) (b := true) rfl rfl hz (of_decide_eq_true rfl) eg ?_
                      clear eg
                      have e0 : ac.eval (.tmp 6) = (.pointer (some ⟨wr.heap.size, 0, none⟩)) := hf 6 rfl
                      clear hd hz hf hw
                      simp only [Oper.wp, execOp, resolve, List.map_toArray, List.map_cons, List.map_nil, Option.map_some, Option.map_none, e0]
                      go_simp
                      exact hK _ _ rfl (Same.refl _ _)
                    · intro ac wc hs hd hz hf hw K hK
                      have eg : ac.eval (.tmp 70) = .bool true := hw 2 rfl
                      refine run_wanted (j := 2) (d := 70) (b := true) rfl rfl hz (of_decide_eq_true rfl) eg ?_
                      clear eg
                      have e0 : ac.eval (.tmp 78) = (.pointer (some ⟨wr.heap.size, 0, none⟩)) := hw 10 rfl
                      have m0 : wc.cell? ⟨wr.heap.size, 0, none⟩ = some (.int .i64 y.at_.wall) := hs.cell (p := ⟨wr.heap.size, 0, none⟩) trivial b0
                      have m1 : wc.cell? ⟨wr.heap.size, 1, none⟩ = some (.int .i64 y.at_.tie) := hs.cell (p := ⟨wr.heap.size, 1, none⟩) trivial b1
                      clear hd hz hf hw
                      simp only [Oper.wp, execOp, resolve, List.map_toArray, List.map_cons, List.map_nil, Option.map_some, Option.map_none, e0]
                      go_simp
                      exact hK _ _ rfl (Same.refl _ _)
                    · intro ac wc hs hd hz hf hw K hK
                      have eg : ac.eval (.tmp 70) = .bool true := hw 2 rfl
                      refine run_wanted (j := 2) (d := 70) (b := true) rfl rfl hz (of_decide_eq_true rfl) eg ?_
                      clear eg
                      have e0 : ac.eval (.tmp 77) = (stV yp.at_) := hw 9 rfl
                      have e1 : ac.eval (.tmp 79) = (stV y.at_) := hw 11 rfl
                      clear hd hz hf hw
                      simp only [Oper.wp, execOp, resolve, List.map_toArray, List.map_cons, List.map_nil, Option.map_some, Option.map_none, e0, e1]
                      go_simp
                      refine (gl _).mono ?_
                      rintro e wd ⟨rfl, hs2⟩
                      exact hK _ _ rfl hs2
                    · intro ac wc hs hd hz hf hw K hK
                      have eg : ac.eval (.tmp 70) = .bool true := hw 2 rfl
                      refine run_wanted (j := 2) (d := 70) (b := true) rfl rfl hz (of_decide_eq_true rfl) eg ?_
                      clear eg
                      have e0 : ac.eval (.tmp 80) = (.bool true) := hw 12 rfl
                      clear hd hz hf hw
                      simp only [Oper.wp, execOp, resolve, List.map_toArray, List.map_cons, List.map_nil, Option.map_some, Option.map_none, e0]
                      go_simp
                      exact hK _ _ rfl (Same.refl _ _)
                    · intro ac wc hs hd hz hf hw K hK
                      have e0 : ac.eval (.tmp 70) = (.bool true) := hw 2 rfl
                      have e1 : ac.eval (.tmp 81) = (.bool false) := hw 13 rfl
                      clear hd hz hf hw
                      simp only [Region.wanted, if_true, Oper.wp, execOp, resolve, List.map_toArray, List.map_cons, List.map_nil, Option.map_some, Option.map_none, e0, e1]
                      go_simp
                      exact hK _ _ rfl (Same.refl _ _)
                    · intro ac wc hs hd hz hf hw K hK
                      have e0 : ac.eval (.tmp 82) = (.bool false) := hw 14 rfl
                      clear hd hz hf hw
                      simp only [Region.wanted, if_true, Oper.wp, execOp, resolve, List.map_toArray, List.map_cons, List.map_nil, Option.map_some, Option.map_none, e0]
                      go_simp
                      exact hK _ _ rfl (Same.refl _ _)
                    · intro ac wc hs hd hz hf hw K hK
                      have eg : ac.eval (.tmp 83) = .bool false := hw 15 rfl
                      refine run_wanted (j := 15) (d := 83) (b := false) rfl rfl hz (of_decide_eq_true rfl) eg ?_
                      clear eg
                      have e0 : ac.eval (.tmp 6) = (.pointer (some ⟨wr.heap.size, 0, none⟩)) := hf 6 rfl
                      clear hd hz hf hw
                      simp only [Oper.wp, execOp, resolve, List.map_toArray, List.map_cons, List.map_nil, Option.map_some, Option.map_none, e0]
                      go_simp
                      exact hK _ _ rfl (Same.refl _ _)
                    · intro ac wc hs hd hz hf hw K hK
                      have eg : ac.eval (.tmp 83) = .bool false := hw 15 rfl
                      refine run_wanted (j := 15) (d := 83) (b := false) rfl rfl hz (of_decide_eq_true rfl) eg ?_
                      clear eg
                      have e0 : ac.eval (.tmp 84) = (.pointer (some ⟨wr.heap.size, 2, none⟩)) := hw 16 rfl
                      have m0 : wc.cell? ⟨wr.heap.size, 2, none⟩ = some (.bool false) := hs.cell (p := ⟨wr.heap.size, 2, none⟩) trivial b2
                      clear hd hz hf hw
                      simp only [Oper.wp, execOp, resolve, List.map_toArray, List.map_cons, List.map_nil, Option.map_some, Option.map_none, e0]
                      go_simp
                      exact hK _ _ rfl (Same.refl _ _)
                    · intro ac wc hs hd hz hf hw K hK
                      have eg : ac.eval (.tmp 83) = .bool false := hw 15 rfl
                      refine run_wanted (j := 15) (d := 83) (b := false) rfl rfl hz (of_decide_eq_true rfl) eg ?_
                      clear eg
                      have e0 : ac.eval (.tmp 85) = (.bool false) := hw 17 rfl
                      clear hd hz hf hw
                      simp only [Oper.wp, execOp, resolve, List.map_toArray, List.map_cons, List.map_nil, Option.map_some, Option.map_none, e0]
                      go_simp
                      exact hK _ _ rfl (Same.refl _ _)
                    · intro ac wc hs hd hz hf hw K hK
                      have eg : ac.eval (.tmp 86) = .bool false := hw 18 rfl
                      refine skip_wanted (j := 18) (d := 86) (b := false) rfl rfl hz (of_decide_eq_true rfl) eg ?_
                      clear eg
                      exact hK _ _ rfl (Same.refl _ _)
                    · intro ac wc hs hd hz hf hw K hK
                      have eg : ac.eval (.tmp 86) = .bool false := hw 18 rfl
                      refine skip_wanted (j := 18) (d := 86) (b := false) rfl rfl hz (of_decide_eq_true rfl) eg ?_
                      clear eg
                      exact hK _ _ rfl (Same.refl _ _)
                    · intro ac wc hs hd hz hf hw K hK
                      have eg : ac.eval (.tmp 86) = .bool false := hw 18 rfl
                      refine skip_wanted (j := 18) (d := 86) (b := false) rfl rfl hz (of_decide_eq_true rfl) eg ?_
                      clear eg
                      exact hK _ _ rfl (Same.refl _ _)
                    · intro ac wc hs hd hz hf hw K hK
                      have eg : ac.eval (.tmp 83) = .bool false := hw 15 rfl
                      refine run_wanted (j := 15) (d := 83) (b := false) rfl rfl hz (of_decide_eq_true rfl) eg ?_
                      clear eg
                      have e0 : ac.eval (.tmp 86) = (.bool false) := hw 18 rfl
                      have e1 : ac.eval (.tmp 89) = undef := hw 21 rfl
                      clear hd hz hf hw
                      simp only [Oper.wp, execOp, resolve, List.map_toArray, List.map_cons, List.map_nil, Option.map_some, Option.map_none, e0, e1]
                      go_simp
                      exact hK _ _ rfl (Same.refl _ _)
                    · intro ac wc hs hd hz hf hw K hK
                      have e0 : ac.eval (.tmp 83) = (.bool false) := hw 15 rfl
                      have e1 : ac.eval (.tmp 90) = (.bool false) := hw 22 rfl
                      clear hd hz hf hw
                      simp only [Region.wanted, if_true, Oper.wp, execOp, resolve, List.map_toArray, List.map_cons, List.map_nil, Option.map_some, Option.map_none, e0, e1]
                      go_simp
                      exact hK _ _ rfl (Same.refl _ _)
                  · intro wR hsR
                    simp only [putAll, Act.put, List.setIfInBounds_toArray, List.set_cons_succ, List.set_cons_zero]
                    go_wp2
                    go_roundw
                    case rel => exact ⟨i2 + 1 + 1, by go_num, by omega, (HSi.out.trans HS9.out).trans hsR⟩
                    case measure => simp [intOf]; omega
                · rw [hdr] at b2
                  rw [hvd hdr] at b3
                  have b3 : W9.cell? ⟨wr.heap.size, 3, none⟩ = some (.string ⟨#[]⟩) := b3
                  clear hvd hdr
                  go_wp2
                  refine wp_region_eq_lit (vs := [(.int .i64 ((i2 : Int) + 1)), (.bool true), (.bool true), (.pointer (some ⟨wo.heap.size, 1, none⟩)), (.slice (some ad2) c.vers.length cu), (.int .i64 ((i2 : Int) + 1)), (.int .i64 i2), (.pointer (some (ad2.add (i2 * 4)))), (.pointer (some (ad2.add (i2 * 4)))), (stV yp.at_), (.pointer (some ⟨wr.heap.size, 0, none⟩)), (stV y.at_), (.bool true), (.bool false), (.bool false), (.bool false), (.pointer (some ⟨wr.heap.size, 2, none⟩)), (.bool true), (.bool true), (.pointer (some ⟨wr.heap.size, 3, none⟩)), (.string ⟨#[]⟩), (.bool false), (.bool false), (.bool false)]) (by kernel_rfl) (by kernel_rfl) rfl rfl ?_ ?_
                  · refine ⟨?_, ?_, ?_, ?_, ?_, ?_, ?_, ?_, ?_, ?_, ?_, ?_, ?_, ?_, ?_, ?_, ?_, ?_, ?_, ?_, ?_, ?_, ?_, ?_, trivial⟩
                    · intro ac wc hs hd hz hf hw K hK
                      have e0 : ac.eval (.tmp 5) = (.int .i64 ((i2 : Int) + 1)) := hf 5 rfl
                      clear hd hz hf hw
                      simp only [Region.wanted, if_true, Oper.wp, execOp, resolve, List.map_toArray, List.map_cons, List.map_nil, Option.map_some, Option.map_none, e0]
                      go_simp
                      exact hK _ _ rfl (Same.refl _ _)
                    · intro ac wc hs hd hz hf hw K hK
                      have e0 : ac.eval (.tmp 68) = (.int .i64 ((i2 : Int) + 1)) := hw 0 rfl
                      clear hd hz hf hw
                      simp only [Region.wanted, if_true, Oper.wp, execOp, resolve, List.map_toArray, List.map_cons, List.map_nil, Option.map_some, Option.map_none, e0]
                      go_simp
                      exact hK _ _ rfl (Same.refl _ _)
                    · intro ac wc hs hd hz hf hw K hK
                      have e0 : ac.eval (.tmp 69) = (.bool true) := hw 1 rfl
                      clear hd hz hf hw
                      simp only [Region.wanted, if_true, Oper.wp, execOp, resolve, List.map_toArray, List.map_cons, List.map_nil, Option.map_some, Option.map_none, e0]
                      go_simp
                      exact hK _ _ rfl (Same.refl _ _)
                    · intro ac wc hs hd hz hf hw K hK
                      have eg : ac.eval (.tmp 70) = .bool true := hw 2 rfl
                      refine run_wanted (j := 2) (d := 70) (b := true) rfl rfl hz (of_decide_eq_true rfl) eg ?_
                      clear eg
                      have e0 : ac.eval (.tmp 4) = (.pointer (some ⟨wo.heap.size, 0, none⟩)) := hf 4 rfl
                      clear hd hz hf hw
                      simp only [Oper.wp, execOp, resolve, List.map_toArray, List.map_cons, List.map_nil, Option.map_some, Option.map_none, e0]
                      go_simp
                      exact hK _ _ rfl (Same.refl _ _)
                    · intro ac wc hs hd hz hf hw K hK
                      have eg : ac.eval (.tmp 70) = .bool true := hw 2 rfl
                      refine run_wanted (j := 2) (d := 70) (b := true) rfl rfl hz (of_decide_eq_true rfl) eg ?_
                      clear eg
                      have e0 : ac.eval (.tmp 71) = (.pointer (some ⟨wo.heap.size, 1, none⟩)) := hw 3 rfl
                      have m0 : wc.cell? ⟨wo.heap.size, 1, none⟩ = some (.slice (some ad2) c.vers.length cu) := hs.cell (p := ⟨wo.heap.size, 1, none⟩) trivial a1
                      clear hd hz hf hw
                      simp only [Oper.wp, execOp, resolve, List.map_toArray, List.map_cons, List.map_nil, Option.map_some, Option.map_none, e0]
                      go_simp
                      exact hK _ _ rfl (Same.refl _ _)
                    · intro ac wc hs hd hz hf hw K hK
                      have eg : ac.eval (.tmp 70) = .bool true := hw 2 rfl
                      refine run_wanted (j := 2) (d := 70) (b := true) rfl rfl hz (of_decide_eq_true rfl) eg ?_
                      clear eg
                      have e0 : ac.eval (.tmp 5) = (.int .i64 ((i2 : Int) + 1)) := hf 5 rfl
                      clear hd hz hf hw
                      simp only [Oper.wp, execOp, resolve, List.map_toArray, List.map_cons, List.map_nil, Option.map_some, Option.map_none, e0]
                      go_simp
                      exact hK _ _ rfl (Same.refl _ _)
                    · intro ac wc hs hd hz hf hw K hK
                      have eg : ac.eval (.tmp 70) = .bool true := hw 2 rfl
                      refine run_wanted (j := 2) (d := 70) (b := true) rfl rfl hz (of_decide_eq_true rfl) eg ?_
                      clear eg
                      have e0 : ac.eval (.tmp 73) = (.int .i64 ((i2 : Int) + 1)) := hw 5 rfl
                      clear hd hz hf hw
                      simp only [Oper.wp, execOp, resolve, List.map_toArray, List.map_cons, List.map_nil, Option.map_some, Option.map_none, e0]
                      go_simp
                      exact hK _ _ rfl (Same.refl _ _)
                    · intro ac wc hs hd hz hf hw K hK
                      have eg : ac.eval (.tmp 70) = .bool true := hw 2 rfl
                      refine run_wanted (j := 2) (d := 70) (b := true) rfl rfl hz (of_decide_eq_true rfl) eg ?_
                      clear eg
                      have e0 : ac.eval (.tmp 72) = (.slice (some ad2) c.vers.length cu) := hw 4 rfl
                      have e1 : ac.eval (.tmp 74) = (.int .i64 i2) := hw 6 rfl
                      clear hd hz hf hw
                      simp only [Oper.wp, execOp, resolve, List.map_toArray, List.map_cons, List.map_nil, Option.map_some, Option.map_none, e0, e1]
                      go_simp
                      exact hK _ _ rfl (Same.refl _ _)
                    · intro ac wc hs hd hz hf hw K hK
                      have eg : ac.eval (.tmp 70) = .bool true := hw 2 rfl
                      refine run_wanted (j := 2) (d := 70) (b := true) rfl rfl hz (of_decide_eq_true rfl) eg ?_
                      clear eg
                      have e0 : ac.eval (.tmp 75) = (.pointer (some (ad2.add (i2 * 4)))) := hw 7 rfl
                      clear hd hz hf hw
                      simp only [Oper.wp, execOp, resolve, List.map_toArray, List.map_cons, List.map_nil, Option.map_some, Option.map_none, e0]
                      go_simp
                      exact hK _ _ rfl (Same.refl _ _)
                    · intro ac wc hs hd hz hf hw K hK
                      have eg : ac.eval (.tmp 70) = .bool true := hw 2 rfl
                      refine run_wanted (j := 2) (d := 70) (b := true) rfl rfl hz (of_decide_eq_true rfl) eg ?_
                      clear eg
                      have e0 : ac.eval (.tmp 76) = (.pointer (some (ad2.add (i2 * 4)))) := hw 8 rfl
                      have m0 : wc.cell? (ad2.add (i2 * 4)) = some (.int .i64 yp.at_.wall) := hs.cell (p := (ad2.add (i2 * 4))) trivial p0
                      have m1 : wc.cell? ⟨(ad2.add (i2 * 4)).block, (ad2.add (i2 * 4)).off + 1, none⟩ = some (.int .i64 yp.at_.tie) := hs.cell (p := ⟨(ad2.add (i2 * 4)).block, (ad2.add (i2 * 4)).off + 1, none⟩) trivial p1
                      clear hd hz hf hw
                      simp only [Oper.wp, execOp, resolve, List.map_toArray, List.map_cons, List.map_nil, Option.map_some, Option.map_none, e0]
                      go_simp
                      exact hK _ _ rfl (Same.refl _ _)
                    · intro ac wc hs hd hz hf hw K hK
                      have eg : ac.eval (.tmp 70) = .bool true := hw 2 rfl
                      refine run_wanted (j := 2) (d := 70) (b := true) rfl rfl hz (of_decide_eq_true rfl) eg ?_
                      clear eg
                      have e0 : ac.eval (.tmp 6) = (.pointer (some ⟨wr.heap.size, 0, none⟩)) := hf 6 rfl
                      clear hd hz hf hw
                      simp only [Oper.wp, execOp, resolve, List.map_toArray, List.map_cons, List.map_nil, Option.map_some, Option.map_none, e0]
                      go_simp
                      exact hK _ _ rfl (Same.refl _ _)
                    · intro ac wc hs hd hz hf hw K hK
                      have eg : ac.eval (.tmp 70) = .bool true := hw 2 rfl
                      refine run_wanted (j := 2) (d := 70) (b := true) rfl rfl hz (of_decide_eq_true rfl) eg ?_
                      clear eg
                      have e0 : ac.eval (.tmp 78) = (.pointer (some ⟨wr.heap.size, 0, none⟩)) := hw 10 rfl
                      have m0 : wc.cell? ⟨wr.heap.size, 0, none⟩ = some (.int .i64 y.at_.wall) := hs.cell (p := ⟨wr.heap.size, 0, none⟩) trivial b0
                      have m1 : wc.cell? ⟨wr.heap.size, 1, none⟩ = some (.int .i64 y.at_.tie) := hs.cell (p := ⟨wr.heap.size, 1, none⟩) trivial b1
                      clear hd hz hf hw
                      simp only [Oper.wp, execOp, resolve, List.map_toArray, List.map_cons, List.map_nil, Option.map_some, Option.map_none, e0]
                      go_simp
                      exact hK _ _ rfl (Same.refl _ _)
                    · intro ac wc hs hd hz hf hw K hK
                      have eg : ac.eval (.tmp 70) = .bool true := hw 2 rfl
                      refine run_wanted (j := 2) (d := 70) (b := true) rfl rfl hz (of_decide_eq_true rfl) eg ?_
                      clear eg
                      have e0 : ac.eval (.tmp 77) = (stV yp.at_) := hw 9 rfl
                      have e1 : ac.eval (.tmp 79) = (stV y.at_) := hw 11 rfl
                      clear hd hz hf hw
                      simp only [Oper.wp, execOp, resolve, List.map_toArray, List.map_cons, List.map_nil, Option.map_some, Option.map_none, e0, e1]
                      go_simp
                      refine (gl _).mono ?_
                      rintro e wd ⟨rfl, hs2⟩
                      exact hK _ _ rfl hs2
                    · intro ac wc hs hd hz hf hw K hK
                      have eg : ac.eval (.tmp 70) = .bool true := hw 2 rfl
                      refine run_wanted (j := 2) (d := 70) (b := true) rfl rfl hz (of_decide_eq_true rfl) eg ?_
                      clear eg
                      have e0 : ac.eval (.tmp 80) = (.bool true) := hw 12 rfl
                      clear hd hz hf hw
                      simp only [Oper.wp, execOp, resolve, List.map_toArray, List.map_cons, List.map_nil, Option.map_some, Option.map_none, e0]
                      go_simp
                      exact hK _ _ rfl (Same.refl _ _)
                    · intro ac wc hs hd hz hf hw K hK
                      have e0 : ac.eval (.tmp 70) = (.bool true) := hw 2 rfl
                      have e1 : ac.eval (.tmp 81) = (.bool false) := hw 13 rfl
                      clear hd hz hf hw
                      simp only [Region.wanted, if_true, Oper.wp, execOp, resolve, List.map_toArray, List.map_cons, List.map_nil, Option.map_some, Option.map_none, e0, e1]
                      go_simp
                      exact hK _ _ rfl (Same.refl _ _)
                    · intro ac wc hs hd hz hf hw K hK
                      have e0 : ac.eval (.tmp 82) = (.bool false) := hw 14 rfl
                      clear hd hz hf hw
                      simp only [Region.wanted, if_true, Oper.wp, execOp, resolve, List.map_toArray, List.map_cons, List.map_nil, Option.map_some, Option.map_none, e0]
                      go_simp
                      exact hK _ _ rfl (Same.refl _ _)
                    · intro ac wc hs hd hz hf hw K hK
                      have eg : ac.eval (.tmp 83) = .bool false := hw 15 rfl
                      refine run_wanted (j := 15) (d := 83) (b := false) rfl rfl hz (of_decide_eq_true rfl) eg ?_
                      clear eg
                      have e0 : ac.eval (.tmp 6) = (.pointer (some ⟨wr.heap.size, 0, none⟩)) := hf 6 rfl
                      clear hd hz hf hw
                      simp only [Oper.wp, execOp, resolve, List.map_toArray, List.map_cons, List.map_nil, Option.map_some, Option.map_none, e0]
                      go_simp
                      exact hK _ _ rfl (Same.refl _ _)
                    · intro ac wc hs hd hz hf hw K hK
                      have eg : ac.eval (.tmp 83) = .bool false := hw 15 rfl
                      refine run_wanted (j := 15) (d := 83) (b := false) rfl rfl hz (of_decide_eq_true rfl) eg ?_
                      clear eg
                      have e0 : ac.eval (.tmp 84) = (.pointer (some ⟨wr.heap.size, 2, none⟩)) := hw 16 rfl
                      have m0 : wc.cell? ⟨wr.heap.size, 2, none⟩ = some (.bool true) := hs.cell (p := ⟨wr.heap.size, 2, none⟩) trivial b2
                      clear hd hz hf hw
                      simp only [Oper.wp, execOp, resolve, List.map_toArray, List.map_cons, List.map_nil, Option.map_some, Option.map_none, e0]
                      go_simp
                      exact hK _ _ rfl (Same.refl _ _)
                    · intro ac wc hs hd hz hf hw K hK
                      have eg : ac.eval (.tmp 83) = .bool false := hw 15 rfl
                      refine run_wanted (j := 15) (d := 83) (b := false) rfl rfl hz (of_decide_eq_true rfl) eg ?_
                      clear eg
                      have e0 : ac.eval (.tmp 85) = (.bool true) := hw 17 rfl
                      clear hd hz hf hw
                      simp only [Oper.wp, execOp, resolve, List.map_toArray, List.map_cons, List.map_nil, Option.map_some, Option.map_none, e0]
                      go_simp
                      exact hK _ _ rfl (Same.refl _ _)
                    · intro ac wc hs hd hz hf hw K hK
                      have eg : ac.eval (.tmp 86) = .bool true := hw 18 rfl
                      refine run_wanted (j := 18) (d := 86) (b := true) rfl rfl hz (of_decide_eq_true rfl) eg ?_
                      clear eg
                      have e0 : ac.eval (.tmp 6) = (.pointer (some ⟨wr.heap.size, 0, none⟩)) := hf 6 rfl
                      clear hd hz hf hw
                      simp only [Oper.wp, execOp, resolve, List.map_toArray, List.map_cons, List.map_nil, Option.map_some, Option.map_none, e0]
                      go_simp
                      exact hK _ _ rfl (Same.refl _ _)
                    · intro ac wc hs hd hz hf hw K hK
                      have eg : ac.eval (.tmp 86) = .bool true := hw 18 rfl
                      refine run_wanted (j := 18) (d := 86) (b := true) rfl rfl hz (of_decide_eq_true rfl) eg ?_
                      clear eg
                      have e0 : ac.eval (.tmp 87) = (.pointer (some ⟨wr.heap.size, 3, none⟩)) := hw 19 rfl
                      have m0 : wc.cell? ⟨wr.heap.size, 3, none⟩ = some (.string ⟨#[]⟩) := hs.cell (p := ⟨wr.heap.size, 3, none⟩) trivial b3
                      clear hd hz hf hw
                      simp only [Oper.wp, execOp, resolve, List.map_toArray, List.map_cons, List.map_nil, Option.map_some, Option.map_none, e0]
                      go_simp
                      exact hK _ _ rfl (Same.refl _ _)
                    · intro ac wc hs hd hz hf hw K hK
                      have eg : ac.eval (.tmp 86) = .bool true := hw 18 rfl
                      refine run_wanted (j := 18) (d := 86) (b := true) rfl rfl hz (of_decide_eq_true rfl) eg ?_
                      clear eg
                      have e0 : ac.eval (.tmp 88) = (.string ⟨#[]⟩) := hw 20 rfl
                      clear hd hz hf hw
                      simp only [Oper.wp, execOp, resolve, List.map_toArray, List.map_cons, List.map_nil, Option.map_some, Option.map_none, e0]
                      go_simp
                      exact hK _ _ rfl (Same.refl _ _)
                    · intro ac wc hs hd hz hf hw K hK
                      have eg : ac.eval (.tmp 83) = .bool false := hw 15 rfl
                      refine run_wanted (j := 15) (d := 83) (b := false) rfl rfl hz (of_decide_eq_true rfl) eg ?_
                      clear eg
                      have e0 : ac.eval (.tmp 86) = (.bool true) := hw 18 rfl
                      have e1 : ac.eval (.tmp 89) = (.bool false) := hw 21 rfl
                      clear hd hz hf hw
                      simp only [Oper.wp, execOp, resolve, List.map_toArray, List.map_cons, List.map_nil, Option.map_some, Option.map_none, e0, e1]
                      go_simp
                      exact hK _ _ rfl (Same.refl _ _)
                    · intro ac wc hs hd hz hf hw K hK
                      have e0 : ac.eval (.tmp 83) = (.bool false) := hw 15 rfl
                      have e1 : ac.eval (.tmp 90) = (.bool false) := hw 22 rfl
                      clear hd hz hf hw
                      simp only [Region.wanted, if_true, Oper.wp, execOp, resolve, List.map_toArray, List.map_cons, List.map_nil, Option.map_some, Option.map_none, e0, e1]
                      go_simp
                      exact hK _ _ rfl (Same.refl _ _)
                  · intro wR hsR
                    simp only [putAll, Act.put, List.setIfInBounds_toArray, List.set_cons_succ, List.set_cons_zero]
                    go_wp2
                    go_roundw
                    case rel => exact ⟨i2 + 1 + 1, by go_num, by omega, (HSi.out.trans HS9.out).trans hsR⟩
                    case measure => simp [intOf]; omega
            · obtain rfl : j = c.vers.length := by omega
              go_wp2
              go_roundw
              case rel => exact ⟨(i + 1) + 1, by go_num, by omega, (HS.out.trans HS8.out).trans HSi.out⟩
              case measure => simp [intOf]; omega
    · obtain rfl : k = cs.length := by omega
      clear hS
      go_wp2
      go_ret
      exact ⟨rfl, HS.out⟩
end Go.Proofs.Ytoldelocfmpccaa
