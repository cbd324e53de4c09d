/-
  Words, plain models, laws and walks that the claims of this layer share (joined by shake.py). No condition.
-/
import Derived.Deep.CutRange
import Derived.Test.YtoldelocfmpccaaS1
import Derived.Test.YtoldelocfmpccaaS2
import Derived.Test.YtoldelocfmpccaaS3
import Derived.Test.YtoldelocfmpccaaS4
set_option linter.unusedSimpArgs false
set_option linter.unusedVariables false
namespace Go.Proofs.Ytoldelocfmpccaa
open Go.RowKit
set_option maxRecDepth 100000 in
set_option maxHeartbeats 8000000 in
theorem mvmay_all (v : Value) (cs : List Cel) (S : Nat → Prop) (w : World) (hv : CelR w S v cs) (hn : cs.length ≤ 100000) (hn2 : ∀ c ∈ cs, c.vers.length ≤ 1000000) :
    Calls Try.prog 31 #[v] w (MayP cs w) := by
  obtain ⟨A, cp, rfl, hc, hm⟩ := hv.form
  have Hv := Lib.hid hv
  have Hn2 := Lib.hid hn2
  unfold maxLen at hm
  clear hv hn2
  go_enter Try.func31, Try.ntmps31
  go_wp2
  go_loopw [3, 4, 5, 6, 9, 63] (fun _ _ _ _ i _ wr => ∃ k : Nat, i = .int .i64 k ∧ k ≤ cs.length ∧ Good (cs.take k) ∧ Same (fun _ => True) w wr) (fun _ _ _ _ i _ _ => cs.length - (intOf i).toNat)
  case atStart => exact ⟨0, rfl, Nat.zero_le _, good_nil, Same.refl _ _⟩
  case round =>
    obtain ⟨k, rfl, hk, hG, hS⟩ := hrel
    obtain ⟨wo, rfl⟩ : ∃ wo : World, wo = wr := ⟨_, rfl⟩
    have HS := Lib.hid hS
    have HG := Lib.hid hG
    clear hG
    by_cases hlt : k < cs.length
    · obtain ⟨ad, u, rfl, -, hvr, c0, c1, c2, c3, c4, c5, c6, c7, c8, c9, c10, c11⟩ := CelR.cells12 (Hv.out.keepAll hS) hlt
      obtain ⟨Au, cu, rfl, hq1, hq2⟩ := hvr.form
      unfold maxLen at hq2
      have x1 : (0 : Int) ≤ (k : Int) := by omega
      have x2 : (k : Int) < (cs.length : Int) := by omega
      have hab := World.block_lt_of_cell? wo _ c0
      have hcl := Hn2.out cs[k] (List.getElem_mem hlt)
      clear hS
      have hng := fun h => not_good_cell hlt rfl h
      have hnx := fun h1 h => good_next2 hlt HG.out h1 h
      have hkw : k = 0 ∨ ∃ i pk, i + 1 = k ∧ (ltB pk cs[k].key = false → ¬ Good cs) ∧ (ltB pk cs[k].key = true → KeyLt cs k cs[k].key) ∧ wo.cell? (ad.add (i * 12)) = some (.string (str pk)) := by
        rcases Nat.eq_zero_or_pos k with h | h
        · exact .inl h
        · obtain ⟨i, rfl⟩ : ∃ i, k = i + 1 := ⟨k - 1, by omega⟩
          obtain ⟨adp, up, ep, -, -, cp0, -⟩ := CelR.cells12 (Hv.out.keepAll HS.out) (i := i) (by omega)
          injection ep with ep
          subst ep
          refine .inr ⟨i, _, rfl, fun h => not_good_key (cs := cs) (i := i) hlt h, fun h j pc hj hpc => ?_, cp0⟩
          have e : j = i := (by omega)
          subst e
          rw [List.getElem?_eq_getElem (by omega)] at hpc
          injection hpc with hpc
          rw [← hpc]
          exact h
      obtain ⟨c, hck⟩ : ∃ c, c = cs[k] := ⟨_, rfl⟩
      rw [← hck] at c0 c1 c2 c3 c4 c5 c6 c7 c8 c9 c10 c11 hvr hcl hng hnx hkw
      have Hvr := Lib.hid hvr
      have Hng := Lib.hid hng
      have Hnx := Lib.hid hnx
      have Hkw := Lib.hid hkw
      clear hvr hck hng hnx hkw
      go_wp2
      have r1 := Row.new wo 64 [.string (str c.key), .slice Au c.vers.length cu, .bool c.locked, .int .i64 c.lock.by_.node, .int .i64 c.lock.by_.life, .int .i64 c.lock.by_.seq, .int .i64 c.lock.by_.attempt, .int .i64 c.lock.home, .int .i64 c.lock.at_.wall, .int .i64 c.lock.at_.tie, .bool c.lock.drop, .string (str c.lock.data)]
      have hS7 := (Same.refl (fun _ => True) wo).alloc (.cells ([.string (str c.key), .slice Au c.vers.length cu, .bool c.locked, .int .i64 c.lock.by_.node, .int .i64 c.lock.by_.life, .int .i64 c.lock.by_.seq, .int .i64 c.lock.by_.attempt, .int .i64 c.lock.home, .int .i64 c.lock.at_.wall, .int .i64 c.lock.at_.tie, .bool c.lock.drop, .string (str c.lock.data)] : List Value).toArray 64)
      clear c0 c1 c2 c3 c4 c5 c6 c7 c8 c9 c10 c11
      revert r1 hS7
      generalize wo.alloc (.cells _ 64) = W7
      intro r1 hS7
      obtain ⟨a0, a1, a2, a3, a4, a5, a6, a7, a8, a9, a10, a11, -⟩ := cel_cells r1
      have HS7 := Lib.hid hS7
      have Hbox7 := Lib.hid r1
      clear r1 hS7
      go_cut [9, 59] from 9 to 93 (fun i9 c59 wx => i9 = .int .i64 (k : Int) ∧ ∃ b : Bool, c59 = .bool b ∧ (∃ nq, wx = W7.drewN nq) ∧ (b = true → ¬ Good cs) ∧ (b = false → KeyLt cs k c.key ∧ (c.locked = false → c.lock = Lck.zero) ∧ keptB c = true ∧ (c.lock.drop = true → c.lock.data = [])))
      case first =>
        rcases Hkw.out with hk0 | ⟨i, pk, hi, hnk, hk1, cp0⟩
        · have y3 : decide ((0 : Int) < (k : Int)) = false := by simp; omega
          have y4 : decide (0 < k) = false := by simp; omega
          have HLO := Lib.hid (show KeyLt cs k c.key by rw [hk0]; exact key_zero _ _)
          clear hk0
          cases hl : c.locked
          · rw [hl] at a2
            by_cases hz : c.lock = Lck.zero
            · rw [hz] at a3 a4 a5 a6 a7 a8 a9 a10 a11
              simp only [Lck.zero] at a3 a4 a5 a6 a7 a8 a9 a10 a11
              have a11x : W7.cell? ⟨wo.heap.size, 11, none⟩ = some (.string ⟨#[]⟩) := a11
              by_cases hv0 : c.vers = []
              · have ng : ¬ GoodC c := fun g => by
                  have := g.kept
                  unfold keptB at this
                  rw [hl, hv0] at this
                  simp at this
                have NGH := Lib.hid (Hng.out ng)
                have h1 : ((c.vers.length : Int) == 0) = true := by rw [hv0]; rfl
                have h2 : (c.vers.length : Int) = 0 := by rw [hv0]; rfl
                clear hl hz hv0 a11 ng
                go_quiet (fail)
                rename_i nq
                go_wp2
                go_meet
                exact ⟨rfl, true, rfl, ⟨nq, rfl⟩, fun _ => NGH.out, (fun h => by cases h)⟩
              · have h0 : (0 : Int) < (c.vers.length : Int) := by
                  have := List.length_pos_iff.2 hv0
                  omega
                have h1 : ((c.vers.length : Int) == 0) = false := by simp; intro e; rw [e] at h0; simp at h0
                have g2 : keptB c = true := by unfold keptB; rw [hl]; simp [hv0]
                have GF := Lib.hid (show (c.locked = false → c.lock = Lck.zero) ∧ keptB c = true ∧ (c.lock.drop = true → c.lock.data = []) from ⟨fun _ => hz, g2, fun h => by rw [hz]; rfl⟩)
                clear hl hz hv0 a11 g2
                go_quiet (fail)
                rename_i nq
                go_wp2
                go_meet
                exact ⟨rfl, false, rfl, ⟨nq, rfl⟩, (fun h => by cases h), fun _ => ⟨HLO.out, GF.out.1, GF.out.2.1, GF.out.2.2⟩⟩
            · have ng : ¬ GoodC c := fun g => hz (g.free hl)
              have NGH := Lib.hid (Hng.out ng)
              have qz := lck_runne hz
              have qz : ∀ w, (binOp .neq 30 (lckV c.lock) (.agg #[.int .i64 0, .int .i64 0, .int .i64 0, .int .i64 0, .int .i64 0, .int .i64 0, .int .i64 0, .bool false, .string ⟨#[]⟩])).run Try.prog w = .ok (.bool true) w := qz
              clear hl hz ng
              go_quiet (fail)
              rename_i nq
              go_wp2
              go_meet
              exact ⟨rfl, true, rfl, ⟨nq, rfl⟩, fun _ => NGH.out, (fun h => by cases h)⟩
          · rw [hl] at a2
            have g2 : keptB c = true := by unfold keptB; rw [hl]; rfl
            have g1 : c.locked = false → c.lock = Lck.zero := fun h => by rw [hl] at h; cases h
            cases hd : c.lock.drop
            · rw [hd] at a10
              have GF := Lib.hid (show (c.locked = false → c.lock = Lck.zero) ∧ keptB c = true ∧ (c.lock.drop = true → c.lock.data = []) from ⟨g1, g2, fun h => by rw [hd] at h; cases h⟩)
              clear hl hd g1 g2
              go_quiet (fail)
              rename_i nq
              go_wp2
              go_meet
              exact ⟨rfl, false, rfl, ⟨nq, rfl⟩, (fun h => by cases h), fun _ => ⟨HLO.out, GF.out.1, GF.out.2.1, GF.out.2.2⟩⟩
            · rw [hd] at a10
              by_cases hdt : c.lock.data = []
              · rw [hdt] at a11
                have a11x : W7.cell? ⟨wo.heap.size, 11, none⟩ = some (.string ⟨#[]⟩) := a11
                have GF := Lib.hid (show (c.locked = false → c.lock = Lck.zero) ∧ keptB c = true ∧ (c.lock.drop = true → c.lock.data = []) from ⟨g1, g2, fun _ => hdt⟩)
                clear hl hd hdt a11 g1 g2
                go_quiet (fail)
                rename_i nq
                go_wp2
                go_meet
                exact ⟨rfl, false, rfl, ⟨nq, rfl⟩, (fun h => by cases h), fun _ => ⟨HLO.out, GF.out.1, GF.out.2.1, GF.out.2.2⟩⟩
              · have ng : ¬ GoodC c := fun g => hdt (g.lock hd)
                have NGH := Lib.hid (Hng.out ng)
                have qd : ¬ (str c.lock.data).toList = [] := by rw [ByteArray.toList_eq]; exact hdt
                have qd2 : ((str c.lock.data).toList == []) = false := by simpa using qd
                clear hl hd hdt ng g1 g2
                go_quiet (fail)
                rename_i nq
                go_wp2
                go_meet
                exact ⟨rfl, true, rfl, ⟨nq, rfl⟩, fun _ => NGH.out, (fun h => by cases h)⟩
        · have y1 : (0 : Int) ≤ (i : Int) := by omega
          have y2 : (i : Int) < (cs.length : Int) := by omega
          have y3 : decide ((0 : Int) < (k : Int)) = true := by simp; omega
          have y4 : 0 < k := by omega
          have y5 : decide (0 < k) = true := by simp; omega
          have y6 : IntKind.i64.wrap ((k : Int) - 1) = (i : Int) := by rw [IntKind.wrap_i64]; omega
          have cp0 := HS7.out.cell (p := (ad.add (i * 12))) trivial cp0
          cases hlo : ltB pk c.key
          · have NGH := Lib.hid (hnk hlo)
            have q1 := ltB_str c.key pk
            have q3 : (Op.bytesLess (str c.key).toList (str pk).toList || (str c.key).toList == (str pk).toList) = true := by
              rw [q1, ByteArray.toList_eq, ByteArray.toList_eq]
              rcases ltB_tri pk c.key with h | h | h
              · rw [h] at hlo; cases hlo
              · rw [h]; simp
              · rw [h]; rfl
            clear q1
            clear hlo hnk hk1 hi
            go_quiet (fail)
            rename_i nq
            go_wp2
            go_meet
            exact ⟨rfl, true, rfl, ⟨nq, rfl⟩, fun _ => NGH.out, (fun h => by cases h)⟩
          · have HLO := Lib.hid (hk1 hlo)
            have q1 := ltB_str c.key pk
            have q3 : (Op.bytesLess (str c.key).toList (str pk).toList || (str c.key).toList == (str pk).toList) = false := by
              rw [q1, ltB_asymm hlo, Bool.false_or, ByteArray.toList_eq, ByteArray.toList_eq]
              have := ltB_ne hlo
              simpa [str] using fun e => this e.symm
            clear q1
            clear hlo hnk hk1 hi
            cases hl : c.locked
            · rw [hl] at a2
              by_cases hz : c.lock = Lck.zero
              · rw [hz] at a3 a4 a5 a6 a7 a8 a9 a10 a11
                simp only [Lck.zero] at a3 a4 a5 a6 a7 a8 a9 a10 a11
                have a11x : W7.cell? ⟨wo.heap.size, 11, none⟩ = some (.string ⟨#[]⟩) := a11
                by_cases hv0 : c.vers = []
                · have ng : ¬ GoodC c := fun g => by
                    have := g.kept
                    unfold keptB at this
                    rw [hl, hv0] at this
                    simp at this
                  have NGH := Lib.hid (Hng.out ng)
                  have h1 : ((c.vers.length : Int) == 0) = true := by rw [hv0]; rfl
                  have h2 : (c.vers.length : Int) = 0 := by rw [hv0]; rfl
                  clear hl hz hv0 a11 ng
                  go_quiet (fail)
                  rename_i nq
                  go_wp2
                  go_meet
                  exact ⟨rfl, true, rfl, ⟨nq, rfl⟩, fun _ => NGH.out, (fun h => by cases h)⟩
                · have h0 : (0 : Int) < (c.vers.length : Int) := by
                    have := List.length_pos_iff.2 hv0
                    omega
                  have h1 : ((c.vers.length : Int) == 0) = false := by simp; intro e; rw [e] at h0; simp at h0
                  have g2 : keptB c = true := by unfold keptB; rw [hl]; simp [hv0]
                  have GF := Lib.hid (show (c.locked = false → c.lock = Lck.zero) ∧ keptB c = true ∧ (c.lock.drop = true → c.lock.data = []) from ⟨fun _ => hz, g2, fun h => by rw [hz]; rfl⟩)
                  clear hl hz hv0 a11 g2
                  go_quiet (fail)
                  rename_i nq
                  go_wp2
                  go_meet
                  exact ⟨rfl, false, rfl, ⟨nq, rfl⟩, (fun h => by cases h), fun _ => ⟨HLO.out, GF.out.1, GF.out.2.1, GF.out.2.2⟩⟩
              · have ng : ¬ GoodC c := fun g => hz (g.free hl)
                have NGH := Lib.hid (Hng.out ng)
                have qz := lck_runne hz
                have qz : ∀ w, (binOp .neq 30 (lckV c.lock) (.agg #[.int .i64 0, .int .i64 0, .int .i64 0, .int .i64 0, .int .i64 0, .int .i64 0, .int .i64 0, .bool false, .string ⟨#[]⟩])).run Try.prog w = .ok (.bool true) w := qz
                clear hl hz ng
                go_quiet (fail)
                rename_i nq
                go_wp2
                go_meet
                exact ⟨rfl, true, rfl, ⟨nq, rfl⟩, fun _ => NGH.out, (fun h => by cases h)⟩
            · rw [hl] at a2
              have g2 : keptB c = true := by unfold keptB; rw [hl]; rfl
              have g1 : c.locked = false → c.lock = Lck.zero := fun h => by rw [hl] at h; cases h
              cases hd : c.lock.drop
              · rw [hd] at a10
                have GF := Lib.hid (show (c.locked = false → c.lock = Lck.zero) ∧ keptB c = true ∧ (c.lock.drop = true → c.lock.data = []) from ⟨g1, g2, fun h => by rw [hd] at h; cases h⟩)
                clear hl hd g1 g2
                go_quiet (fail)
                rename_i nq
                go_wp2
                go_meet
                exact ⟨rfl, false, rfl, ⟨nq, rfl⟩, (fun h => by cases h), fun _ => ⟨HLO.out, GF.out.1, GF.out.2.1, GF.out.2.2⟩⟩
              · rw [hd] at a10
                by_cases hdt : c.lock.data = []
                · rw [hdt] at a11
                  have a11x : W7.cell? ⟨wo.heap.size, 11, none⟩ = some (.string ⟨#[]⟩) := a11
                  have GF := Lib.hid (show (c.locked = false → c.lock = Lck.zero) ∧ keptB c = true ∧ (c.lock.drop = true → c.lock.data = []) from ⟨g1, g2, fun _ => hdt⟩)
                  clear hl hd hdt a11 g1 g2
                  go_quiet (fail)
                  rename_i nq
                  go_wp2
                  go_meet
                  exact ⟨rfl, false, rfl, ⟨nq, rfl⟩, (fun h => by cases h), fun _ => ⟨HLO.out, GF.out.1, GF.out.2.1, GF.out.2.2⟩⟩
                · have ng : ¬ GoodC c := fun g => hdt (g.lock hd)
                  have NGH := Lib.hid (Hng.out ng)
                  have qd : ¬ (str c.lock.data).toList = [] := by rw [ByteArray.toList_eq]; exact hdt
                  have qd2 : ((str c.lock.data).toList == []) = false := by simpa using qd
                  clear hl hd hdt ng g1 g2
                  go_quiet (fail)
                  rename_i nq
                  go_wp2
                  go_meet
                  exact ⟨rfl, true, rfl, ⟨nq, rfl⟩, fun _ => NGH.out, (fun h => by cases h)⟩
      case rest =>
        obtain ⟨rfl, cb, rfl, ⟨nq, rfl⟩, hbt, hbf⟩ := hcut
        cases cb
        case true =>
          have NGH := Lib.hid (hbt rfl)
          have HS8 := Lib.hid (HS7.out.drewN nq)
          generalize W7.drewN nq = W8 at *
          clear hbt hbf a0 a1 a2 a3 a4 a5 a6 a7 a8 a9 a10 a11
          go_wp2
          go_ret
          exact MayP.no NGH.out (HS.out.trans HS8.out)
        obtain ⟨hfk, hf1, hf2, hf3⟩ := hbf rfl
        clear hbt hbf
        have Hnx := Lib.hid (Hnx.out hfk)
        clear hfk
        have HF1 := Lib.hid hf1
        have HF2 := Lib.hid hf2
        have HF3 := Lib.hid hf3
        clear hf1 hf2 hf3
        have hS8 := HS7.out.drewN nq
        have hbox8 := Hbox7.out.keep ((Same.refl (fun _ => True) W7).drewN nq) trivial
        generalize W7.drewN nq = W8 at *
        have a1 : W8.cell? ⟨wo.heap.size, 1, none⟩ = some (.slice Au c.vers.length cu) := hbox8.cell 1
        have HS8 := Lib.hid hS8
        have Hbox8 := Lib.hid hbox8
        clear hS8 hbox8 a0 a2 a3 a4 a5 a6 a7 a8 a9 a10 a11
        go_wp2
        go_loopw [5, 6, 63] (fun _ _ i wi => ∃ j : Nat, i = .int .i64 j ∧ j ≤ c.vers.length ∧ SortV (c.vers.take j) ∧ Clean (c.vers.take j) ∧ Same (fun _ => True) W8 wi) (fun _ _ i _ => c.vers.length - (intOf i).toNat)
        case atStart => exact ⟨0, rfl, Nat.zero_le _, clean_nil.1, clean_nil.2, Same.refl _ _⟩
        case round =>
          obtain ⟨j, rfl, hj, hso, hcl2, hSi⟩ := hrel
          have HSi := Lib.hid hSi
          have Hso := Lib.hid hso
          have Hcl := Lib.hid hcl2
          have a1 : wr.cell? ⟨wo.heap.size, 1, none⟩ = some (.slice Au c.vers.length cu) := (Hbox8.out.keep hSi trivial).cell 1
          have z7 := (Hbox8.out.keep hSi trivial).lt
          clear hSi hso hcl2
          by_cases hjl : j < c.vers.length
          · rcases j with _ | i2
            · obtain ⟨ad2, rfl, -, d0, d1, d2, d3⟩ := VerR.cells (RowR.keepAll Hvr.out (HS8.out.trans HSi.out)) hjl
              have hym : c.vers[0] ∈ c.vers := List.getElem_mem hjl
              have hvn := fun h1 => vers_next hjl Hso.out Hcl.out h1
              have hvn : (c.vers[0].drop = true → c.vers[0].data = []) → True → SortV (c.vers.take 1) ∧ Clean (c.vers.take 1) := fun h1 _ => hvn h1 (fun i h => by omega)
              have x3 : (0 : Int) ≤ ((0 : Nat) : Int) := by omega
              have x4 : ((0 : Nat) : Int) < (c.vers.length : Int) := by omega
              simp only [Nat.zero_mul, add_zero] at d0 d1 d2 d3
              have hab2 := World.block_lt_of_cell? wr _ d0
              have Hvn := Lib.hid hvn
              have HyM := Lib.hid hym
              clear hvn hym
              go_wp2
              have rv := Row.new wr 69 (verCs c.vers[0])
              have hS9 := (Same.refl (fun _ => True) wr).alloc (.cells (verCs c.vers[0]).toArray 69)
              simp only [verCs] at rv hS9
              clear d0 d1 d2 d3 hab2
              revert rv hS9
              generalize wr.alloc (.cells _ 69) = W9
              intro rv hS9
              have b0 : W9.cell? ⟨wr.heap.size, 0, none⟩ = some (.int .i64 c.vers[0].at_.wall) := rv.cell 0
              have b1 : W9.cell? ⟨wr.heap.size, 1, none⟩ = some (.int .i64 c.vers[0].at_.tie) := rv.cell 1
              have b2 : W9.cell? ⟨wr.heap.size, 2, none⟩ = some (.bool c.vers[0].drop) := rv.cell 2
              have b3 : W9.cell? ⟨wr.heap.size, 3, none⟩ = some (.string (str c.vers[0].data)) := rv.cell 3
              have z9 := rv.lt
              have a1 : W9.cell? ⟨wo.heap.size, 1, none⟩ = some (.slice (some ad2) c.vers.length cu) := hS9.cell (p := ⟨wo.heap.size, 1, none⟩) trivial a1
              have HS9 := Lib.hid hS9
              clear rv hS9
              generalize c.vers[0] = y at *
              cases hdr : y.drop
              · rw [hdr] at b2
                have hVD : y.drop = true → y.data = [] := fun h => by rw [hdr] at h; cases h
                have HVD := Lib.hid hVD
                clear hVD hdr
                go_wp2
                refine wp_region_eq_lit (vs := [(.int .i64 0), (.bool false), (.bool false), undef, undef, undef, undef, undef, undef, undef, undef, undef, undef, undef, (.bool false), (.bool false), (.pointer (some ⟨wr.heap.size, 2, none⟩)), (.bool false), (.bool false), undef, undef, undef, (.bool false), (.bool false)]) (by kernel_rfl) (by kernel_rfl) rfl rfl ?_ ?_
                · refine ⟨?_, ?_, ?_, ?_, ?_, ?_, ?_, ?_, ?_, ?_, ?_, ?_, ?_, ?_, ?_, ?_, ?_, ?_, ?_, ?_, ?_, ?_, ?_, ?_, trivial⟩
                  · intro ac wc hs hd hz hf hw K hK
                    have e0 : ac.eval (.tmp 5) = (.int .i64 0) := hf 5 rfl
                    clear hd hz hf hw
                    simp only [Region.wanted, if_true, Oper.wp, execOp, resolve, List.map_toArray, List.map_cons, List.map_nil, Option.map_some, Option.map_none, e0]
                    go_simp
                    exact hK _ _ rfl (Same.refl _ _)
                  · intro ac wc hs hd hz hf hw K hK
                    have e0 : ac.eval (.tmp 68) = (.int .i64 0) := hw 0 rfl
                    clear hd hz hf hw
                    simp only [Region.wanted, if_true, Oper.wp, execOp, resolve, List.map_toArray, List.map_cons, List.map_nil, Option.map_some, Option.map_none, e0]
                    go_simp
                    exact hK _ _ rfl (Same.refl _ _)
                  · intro ac wc hs hd hz hf hw K hK
                    have e0 : ac.eval (.tmp 69) = (.bool false) := hw 1 rfl
                    clear hd hz hf hw
                    simp only [Region.wanted, if_true, Oper.wp, execOp, resolve, List.map_toArray, List.map_cons, List.map_nil, Option.map_some, Option.map_none, e0]
                    go_simp
                    exact hK _ _ rfl (Same.refl _ _)
                  · intro ac wc hs hd hz hf hw K hK
                    have eg : ac.eval (.tmp 70) = .bool false := hw 2 rfl
                    refine skip_wanted (j := 2) (d := 70) (b := false) rfl rfl hz (of_decide_eq_true rfl) eg ?_
                    clear eg
                    exact hK _ _ rfl (Same.refl _ _)
                  · intro ac wc hs hd hz hf hw K hK
                    have eg : ac.eval (.tmp 70) = .bool false := hw 2 rfl
                    refine skip_wanted (j := 2) (d := 70) (b := false) rfl rfl hz (of_decide_eq_true rfl) eg ?_
                    clear eg
                    exact hK _ _ rfl (Same.refl _ _)
                  · intro ac wc hs hd hz hf hw K hK
                    have eg : ac.eval (.tmp 70) = .bool false := hw 2 rfl
                    refine skip_wanted (j := 2) (d := 70) (b := false) rfl rfl hz (of_decide_eq_true rfl) eg ?_
                    clear eg
                    exact hK _ _ rfl (Same.refl _ _)
                  · intro ac wc hs hd hz hf hw K hK
                    have eg : ac.eval (.tmp 70) = .bool false := hw 2 rfl
                    refine skip_wanted (j := 2) (d := 70) (b := false) rfl rfl hz (of_decide_eq_true rfl) eg ?_
                    clear eg
                    exact hK _ _ rfl (Same.refl _ _)
                  · intro ac wc hs hd hz hf hw K hK
                    have eg : ac.eval (.tmp 70) = .bool false := hw 2 rfl
                    refine skip_wanted (j := 2) (d := 70) (b := false) rfl rfl hz (of_decide_eq_true rfl) eg ?_
                    clear eg
                    exact hK _ _ rfl (Same.refl _ _)
                  · intro ac wc hs hd hz hf hw K hK
                    have eg : ac.eval (.tmp 70) = .bool false := hw 2 rfl
                    refine skip_wanted (j := 2) (d := 70) (b := false) rfl rfl hz (of_decide_eq_true rfl) eg ?_
                    clear eg
                    exact hK _ _ rfl (Same.refl _ _)
                  · intro ac wc hs hd hz hf hw K hK
                    have eg : ac.eval (.tmp 70) = .bool false := hw 2 rfl
                    refine skip_wanted (j := 2) (d := 70) (b := false) rfl rfl hz (of_decide_eq_true rfl) eg ?_
                    clear eg
                    exact hK _ _ rfl (Same.refl _ _)
                  · intro ac wc hs hd hz hf hw K hK
                    have eg : ac.eval (.tmp 70) = .bool false := hw 2 rfl
                    refine skip_wanted (j := 2) (d := 70) (b := false) rfl rfl hz (of_decide_eq_true rfl) eg ?_
                    clear eg
                    exact hK _ _ rfl (Same.refl _ _)
                  · intro ac wc hs hd hz hf hw K hK
                    have eg : ac.eval (.tmp 70) = .bool false := hw 2 rfl
                    refine skip_wanted (j := 2) (d := 70) (b := false) rfl rfl hz (of_decide_eq_true rfl) eg ?_
                    clear eg
                    exact hK _ _ rfl (Same.refl _ _)
                  · intro ac wc hs hd hz hf hw K hK
                    have eg : ac.eval (.tmp 70) = .bool false := hw 2 rfl
                    refine skip_wanted (j := 2) (d := 70) (b := false) rfl rfl hz (of_decide_eq_true rfl) eg ?_
                    clear eg
                    exact hK _ _ rfl (Same.refl _ _)
                  · intro ac wc hs hd hz hf hw K hK
                    have eg : ac.eval (.tmp 70) = .bool false := hw 2 rfl
                    refine skip_wanted (j := 2) (d := 70) (b := false) rfl rfl hz (of_decide_eq_true rfl) eg ?_
                    clear eg
                    exact hK _ _ rfl (Same.refl _ _)
                  · intro ac wc hs hd hz hf hw K hK
                    have e0 : ac.eval (.tmp 70) = (.bool false) := hw 2 rfl
                    have e1 : ac.eval (.tmp 81) = undef := hw 13 rfl
                    clear hd hz hf hw
                    simp only [Region.wanted, if_true, Oper.wp, execOp, resolve, List.map_toArray, List.map_cons, List.map_nil, Option.map_some, Option.map_none, e0, e1]
                    go_simp
                    exact hK _ _ rfl (Same.refl _ _)
                  · intro ac wc hs hd hz hf hw K hK
                    have e0 : ac.eval (.tmp 82) = (.bool false) := hw 14 rfl
                    clear hd hz hf hw
                    simp only [Region.wanted, if_true, Oper.wp, execOp, resolve, List.map_toArray, List.map_cons, List.map_nil, Option.map_some, Option.map_none, e0]
                    go_simp
                    exact hK _ _ rfl (Same.refl _ _)
                  · intro ac wc hs hd hz hf hw K hK
                    have eg : ac.eval (.tmp 83) = .bool false := hw 15 rfl
                    refine run_wanted (j := 15) (d := 83) (b := false) rfl rfl hz (of_decide_eq_true rfl) eg ?_
                    clear eg
                    have e0 : ac.eval (.tmp 6) = (.pointer (some ⟨wr.heap.size, 0, none⟩)) := hf 6 rfl
                    clear hd hz hf hw
                    simp only [Oper.wp, execOp, resolve, List.map_toArray, List.map_cons, List.map_nil, Option.map_some, Option.map_none, e0]
                    go_simp
                    exact hK _ _ rfl (Same.refl _ _)
                  · intro ac wc hs hd hz hf hw K hK
                    have eg : ac.eval (.tmp 83) = .bool false := hw 15 rfl
                    refine run_wanted (j := 15) (d := 83) (b := false) rfl rfl hz (of_decide_eq_true rfl) eg ?_
                    clear eg
                    have e0 : ac.eval (.tmp 84) = (.pointer (some ⟨wr.heap.size, 2, none⟩)) := hw 16 rfl
                    have m0 : wc.cell? ⟨wr.heap.size, 2, none⟩ = some (.bool false) := hs.cell (p := ⟨wr.heap.size, 2, none⟩) trivial b2
                    clear hd hz hf hw
                    simp only [Oper.wp, execOp, resolve, List.map_toArray, List.map_cons, List.map_nil, Option.map_some, Option.map_none, e0]
                    go_simp
                    exact hK _ _ rfl (Same.refl _ _)
                  · intro ac wc hs hd hz hf hw K hK
                    have eg : ac.eval (.tmp 83) = .bool false := hw 15 rfl
                    refine run_wanted (j := 15) (d := 83) (b := false) rfl rfl hz (of_decide_eq_true rfl) eg ?_
                    clear eg
                    have e0 : ac.eval (.tmp 85) = (.bool false) := hw 17 rfl
                    clear hd hz hf hw
                    simp only [Oper.wp, execOp, resolve, List.map_toArray, List.map_cons, List.map_nil, Option.map_some, Option.map_none, e0]
                    go_simp
                    exact hK _ _ rfl (Same.refl _ _)
                  · intro ac wc hs hd hz hf hw K hK
                    have eg : ac.eval (.tmp 86) = .bool false := hw 18 rfl
                    refine skip_wanted (j := 18) (d := 86) (b := false) rfl rfl hz (of_decide_eq_true rfl) eg ?_
                    clear eg
                    exact hK _ _ rfl (Same.refl _ _)
                  · intro ac wc hs hd hz hf hw K hK
                    have eg : ac.eval (.tmp 86) = .bool false := hw 18 rfl
                    refine skip_wanted (j := 18) (d := 86) (b := false) rfl rfl hz (of_decide_eq_true rfl) eg ?_
                    clear eg
                    exact hK _ _ rfl (Same.refl _ _)
                  · intro ac wc hs hd hz hf hw K hK
                    have eg : ac.eval (.tmp 86) = .bool false := hw 18 rfl
                    refine skip_wanted (j := 18) (d := 86) (b := false) rfl rfl hz (of_decide_eq_true rfl) eg ?_
                    clear eg
                    exact hK _ _ rfl (Same.refl _ _)
                  · intro ac wc hs hd hz hf hw K hK
                    have eg : ac.eval (.tmp 83) = .bool false := hw 15 rfl
                    refine run_wanted (j := 15) (d := 83) (b := false) rfl rfl hz (of_decide_eq_true rfl) eg ?_
                    clear eg
                    have e0 : ac.eval (.tmp 86) = (.bool false) := hw 18 rfl
                    have e1 : ac.eval (.tmp 89) = undef := hw 21 rfl
                    clear hd hz hf hw
                    simp only [Oper.wp, execOp, resolve, List.map_toArray, List.map_cons, List.map_nil, Option.map_some, Option.map_none, e0, e1]
                    go_simp
                    exact hK _ _ rfl (Same.refl _ _)
                  · intro ac wc hs hd hz hf hw K hK
                    have e0 : ac.eval (.tmp 83) = (.bool false) := hw 15 rfl
                    have e1 : ac.eval (.tmp 90) = (.bool false) := hw 22 rfl
                    clear hd hz hf hw
                    simp only [Region.wanted, if_true, Oper.wp, execOp, resolve, List.map_toArray, List.map_cons, List.map_nil, Option.map_some, Option.map_none, e0, e1]
                    go_simp
                    exact hK _ _ rfl (Same.refl _ _)
                · intro wR hsR
                  simp only [putAll, Act.put, List.setIfInBounds_toArray, List.set_cons_succ, List.set_cons_zero]
                  go_wp2
                  go_roundw
                  case rel => exact ⟨1, by go_num, by omega, (Hvn.out HVD.out (trivial)).1, (Hvn.out HVD.out (trivial)).2, (HSi.out.trans HS9.out).trans hsR⟩
                  case measure => simp [intOf]; omega
              · rw [hdr] at b2
                by_cases hdt : y.data = []
                · have hVD : y.drop = true → y.data = [] := fun _ => hdt
                  rw [hdt] at b3
                  have b3 : W9.cell? ⟨wr.heap.size, 3, none⟩ = some (.string ⟨#[]⟩) := b3
                  have HVD := Lib.hid hVD
                  clear hVD hdr hdt
                  go_wp2
                  refine wp_region_eq_lit (vs := [(.int .i64 0), (.bool false), (.bool false), undef, undef, undef, undef, undef, undef, undef, undef, undef, undef, undef, (.bool false), (.bool false), (.pointer (some ⟨wr.heap.size, 2, none⟩)), (.bool true), (.bool true), (.pointer (some ⟨wr.heap.size, 3, none⟩)), (.string ⟨#[]⟩), (.bool false), (.bool false), (.bool false)]) (by kernel_rfl) (by kernel_rfl) rfl rfl ?_ ?_
                  · refine ⟨?_, ?_, ?_, ?_, ?_, ?_, ?_, ?_, ?_, ?_, ?_, ?_, ?_, ?_, ?_, ?_, ?_, ?_, ?_, ?_, ?_, ?_, ?_, ?_, trivial⟩
                    · intro ac wc hs hd hz hf hw K hK
                      have e0 : ac.eval (.tmp 5) = (.int .i64 0) := hf 5 rfl
                      clear hd hz hf hw
                      simp only [Region.wanted, if_true, Oper.wp, execOp, resolve, List.map_toArray, List.map_cons, List.map_nil, Option.map_some, Option.map_none, e0]
                      go_simp
                      exact hK _ _ rfl (Same.refl _ _)
                    · intro ac wc hs hd hz hf hw K hK
                      have e0 : ac.eval (.tmp 68) = (.int .i64 0) := hw 0 rfl
                      clear hd hz hf hw
                      simp only [Region.wanted, if_true, Oper.wp, execOp, resolve, List.map_toArray, List.map_cons, List.map_nil, Option.map_some, Option.map_none, e0]
                      go_simp
                      exact hK _ _ rfl (Same.refl _ _)
                    · intro ac wc hs hd hz hf hw K hK
                      have e0 : ac.eval (.tmp 69) = (.bool false) := hw 1 rfl
                      clear hd hz hf hw
                      simp only [Region.wanted, if_true, Oper.wp, execOp, resolve, List.map_toArray, List.map_cons, List.map_nil, Option.map_some, Option.map_none, e0]
                      go_simp
                      exact hK _ _ rfl (Same.refl _ _)
                    · intro ac wc hs hd hz hf hw K hK
                      have eg : ac.eval (.tmp 70) = .bool false := hw 2 rfl
                      refine skip_wanted (j := 2) (d := 70) (b := false) rfl rfl hz (of_decide_eq_true rfl) eg ?_
                      clear eg
                      exact hK _ _ rfl (Same.refl _ _)
                    · intro ac wc hs hd hz hf hw K hK
                      have eg : ac.eval (.tmp 70) = .bool false := hw 2 rfl
                      refine skip_wanted (j := 2) (d := 70) (b := false) rfl rfl hz (of_decide_eq_true rfl) eg ?_
                      clear eg
                      exact hK _ _ rfl (Same.refl _ _)
                    · intro ac wc hs hd hz hf hw K hK
                      have eg : ac.eval (.tmp 70) = .bool false := hw 2 rfl
                      refine skip_wanted (j := 2) (d := 70) (b := false) rfl rfl hz (of_decide_eq_true rfl) eg ?_
                      clear eg
                      exact hK _ _ rfl (Same.refl _ _)
                    · intro ac wc hs hd hz hf hw K hK
                      have eg : ac.eval (.tmp 70) = .bool false := hw 2 rfl
                      refine skip_wanted (j := 2) (d := 70) (b := false) rfl rfl hz (of_decide_eq_true rfl) eg ?_
                      clear eg
                      exact hK _ _ rfl (Same.refl _ _)
                    · intro ac wc hs hd hz hf hw K hK
                      have eg : ac.eval (.tmp 70) = .bool false := hw 2 rfl
                      refine skip_wanted (j := 2) (d := 70) (b := false) rfl rfl hz (of_decide_eq_true rfl) eg ?_
                      clear eg
                      exact hK _ _ rfl (Same.refl _ _)
                    · intro ac wc hs hd hz hf hw K hK
                      have eg : ac.eval (.tmp 70) = .bool false := hw 2 rfl
                      refine skip_wanted (j := 2) (d := 70) (b := false) rfl rfl hz (of_decide_eq_true rfl) eg ?_
                      clear eg
                      exact hK _ _ rfl (Same.refl _ _)
                    · intro ac wc hs hd hz hf hw K hK
                      have eg : ac.eval (.tmp 70) = .bool false := hw 2 rfl
                      refine skip_wanted (j := 2) (d := 70) (b := false) rfl rfl hz (of_decide_eq_true rfl) eg ?_
                      clear eg
                      exact hK _ _ rfl (Same.refl _ _)
                    · intro ac wc hs hd hz hf hw K hK
                      have eg : ac.eval (.tmp 70) = .bool false := hw 2 rfl
                      refine skip_wanted (j := 2) (d := 70) (b := false) rfl rfl hz (of_decide_eq_true rfl) eg ?_
                      clear eg
                      exact hK _ _ rfl (Same.refl _ _)
                    · intro ac wc hs hd hz hf hw K hK
                      have eg : ac.eval (.tmp 70) = .bool false := hw 2 rfl
                      refine skip_wanted (j := 2) (d := 70) (b := false) rfl rfl hz (of_decide_eq_true rfl) eg ?_
                      clear eg
                      exact hK _ _ rfl (Same.refl _ _)
                    · intro ac wc hs hd hz hf hw K hK
                      have eg : ac.eval (.tmp 70) = .bool false := hw 2 rfl
                      refine skip_wanted (j := 2) (d := 70) (b := false) rfl rfl hz (of_decide_eq_true rfl) eg ?_
                      clear eg
                      exact hK _ _ rfl (Same.refl _ _)
                    · intro ac wc hs hd hz hf hw K hK
                      have eg : ac.eval (.tmp 70) = .bool false := hw 2 rfl
                      refine skip_wanted (j := 2) (d := 70) (b := false) rfl rfl hz (of_decide_eq_true rfl) eg ?_
                      clear eg
                      exact hK _ _ rfl (Same.refl _ _)
                    · intro ac wc hs hd hz hf hw K hK
                      have e0 : ac.eval (.tmp 70) = (.bool false) := hw 2 rfl
                      have e1 : ac.eval (.tmp 81) = undef := hw 13 rfl
                      clear hd hz hf hw
                      simp only [Region.wanted, if_true, Oper.wp, execOp, resolve, List.map_toArray, List.map_cons, List.map_nil, Option.map_some, Option.map_none, e0, e1]
                      go_simp
                      exact hK _ _ rfl (Same.refl _ _)
                    · intro ac wc hs hd hz hf hw K hK
                      have e0 : ac.eval (.tmp 82) = (.bool false) := hw 14 rfl
                      clear hd hz hf hw
                      simp only [Region.wanted, if_true, Oper.wp, execOp, resolve, List.map_toArray, List.map_cons, List.map_nil, Option.map_some, Option.map_none, e0]
                      go_simp
                      exact hK _ _ rfl (Same.refl _ _)
                    · intro ac wc hs hd hz hf hw K hK
                      have eg : ac.eval (.tmp 83) = .bool false := hw 15 rfl
                      refine run_wanted (j := 15) (d := 83) (b := false) rfl rfl hz (of_decide_eq_true rfl) eg ?_
                      clear eg
                      have e0 : ac.eval (.tmp 6) = (.pointer (some ⟨wr.heap.size, 0, none⟩)) := hf 6 rfl
                      clear hd hz hf hw
                      simp only [Oper.wp, execOp, resolve, List.map_toArray, List.map_cons, List.map_nil, Option.map_some, Option.map_none, e0]
                      go_simp
                      exact hK _ _ rfl (Same.refl _ _)
                    · intro ac wc hs hd hz hf hw K hK
                      have eg : ac.eval (.tmp 83) = .bool false := hw 15 rfl
                      refine run_wanted (j := 15) (d := 83) (b := false) rfl rfl hz (of_decide_eq_true rfl) eg ?_
                      clear eg
                      have e0 : ac.eval (.tmp 84) = (.pointer (some ⟨wr.heap.size, 2, none⟩)) := hw 16 rfl
                      have m0 : wc.cell? ⟨wr.heap.size, 2, none⟩ = some (.bool true) := hs.cell (p := ⟨wr.heap.size, 2, none⟩) trivial b2
                      clear hd hz hf hw
                      simp only [Oper.wp, execOp, resolve, List.map_toArray, List.map_cons, List.map_nil, Option.map_some, Option.map_none, e0]
                      go_simp
                      exact hK _ _ rfl (Same.refl _ _)
                    · intro ac wc hs hd hz hf hw K hK
                      have eg : ac.eval (.tmp 83) = .bool false := hw 15 rfl
                      refine run_wanted (j := 15) (d := 83) (b := false) rfl rfl hz (of_decide_eq_true rfl) eg ?_
                      clear eg
                      have e0 : ac.eval (.tmp 85) = (.bool true) := hw 17 rfl
                      clear hd hz hf hw
                      simp only [Oper.wp, execOp, resolve, List.map_toArray, List.map_cons, List.map_nil, Option.map_some, Option.map_none, e0]
                      go_simp
                      exact hK _ _ rfl (Same.refl _ _)
                    · intro ac wc hs hd hz hf hw K hK
                      have eg : ac.eval (.tmp 86) = .bool true := hw 18 rfl
                      refine run_wanted (j := 18) (d := 86) (b := true) rfl rfl hz (of_decide_eq_true rfl) eg ?_
                      clear eg
                      have e0 : ac.eval (.tmp 6) = (.pointer (some ⟨wr.heap.size, 0, none⟩)) := hf 6 rfl
                      clear hd hz hf hw
                      simp only [Oper.wp, execOp, resolve, List.map_toArray, List.map_cons, List.map_nil, Option.map_some, Option.map_none, e0]
                      go_simp
                      exact hK _ _ rfl (Same.refl _ _)
                    · intro ac wc hs hd hz hf hw K hK
                      have eg : ac.eval (.tmp 86) = .bool true := hw 18 rfl
                      refine run_wanted (j := 18) (d := 86) (b := true) rfl rfl hz (of_decide_eq_true rfl) eg ?_
                      clear eg
                      have e0 : ac.eval (.tmp 87) = (.pointer (some ⟨wr.heap.size, 3, none⟩)) := hw 19 rfl
                      have m0 : wc.cell? ⟨wr.heap.size, 3, none⟩ = some (.string ⟨#[]⟩) := hs.cell (p := ⟨wr.heap.size, 3, none⟩) trivial b3
                      clear hd hz hf hw
                      simp only [Oper.wp, execOp, resolve, List.map_toArray, List.map_cons, List.map_nil, Option.map_some, Option.map_none, e0]
                      go_simp
                      exact hK _ _ rfl (Same.refl _ _)
                    · intro ac wc hs hd hz hf hw K hK
                      have eg : ac.eval (.tmp 86) = .bool true := hw 18 rfl
                      refine run_wanted (j := 18) (d := 86) (b := true) rfl rfl hz (of_decide_eq_true rfl) eg ?_
                      clear eg
                      have e0 : ac.eval (.tmp 88) = (.string ⟨#[]⟩) := hw 20 rfl
                      clear hd hz hf hw
                      simp only [Oper.wp, execOp, resolve, List.map_toArray, List.map_cons, List.map_nil, Option.map_some, Option.map_none, e0]
                      go_simp
                      exact hK _ _ rfl (Same.refl _ _)
                    · intro ac wc hs hd hz hf hw K hK
                      have eg : ac.eval (.tmp 83) = .bool false := hw 15 rfl
                      refine run_wanted (j := 15) (d := 83) (b := false) rfl rfl hz (of_decide_eq_true rfl) eg ?_
                      clear eg
                      have e0 : ac.eval (.tmp 86) = (.bool true) := hw 18 rfl
                      have e1 : ac.eval (.tmp 89) = (.bool false) := hw 21 rfl
                      clear hd hz hf hw
                      simp only [Oper.wp, execOp, resolve, List.map_toArray, List.map_cons, List.map_nil, Option.map_some, Option.map_none, e0, e1]
                      go_simp
                      exact hK _ _ rfl (Same.refl _ _)
                    · intro ac wc hs hd hz hf hw K hK
                      have e0 : ac.eval (.tmp 83) = (.bool false) := hw 15 rfl
                      have e1 : ac.eval (.tmp 90) = (.bool false) := hw 22 rfl
                      clear hd hz hf hw
                      simp only [Region.wanted, if_true, Oper.wp, execOp, resolve, List.map_toArray, List.map_cons, List.map_nil, Option.map_some, Option.map_none, e0, e1]
                      go_simp
                      exact hK _ _ rfl (Same.refl _ _)
                  · intro wR hsR
                    simp only [putAll, Act.put, List.setIfInBounds_toArray, List.set_cons_succ, List.set_cons_zero]
                    go_wp2
                    go_roundw
                    case rel => exact ⟨1, by go_num, by omega, (Hvn.out HVD.out (trivial)).1, (Hvn.out HVD.out (trivial)).2, (HSi.out.trans HS9.out).trans hsR⟩
                    case measure => simp [intOf]; omega
                · have hVD : ¬ (y.drop = true → y.data = []) := fun h => hdt (h hdr)
                  have qd : ¬ (str y.data).toList = [] := by rw [ByteArray.toList_eq]; exact hdt
                  have qd2 : ((str y.data).toList == []) = false := by simpa using qd
                  have HVD := Lib.hid hVD
                  clear hVD hdr hdt
                  go_wp2
                  refine wp_region_eq_lit (vs := [(.int .i64 0), (.bool false), (.bool false), undef, undef, undef, undef, undef, undef, undef, undef, undef, undef, undef, (.bool false), (.bool false), (.pointer (some ⟨wr.heap.size, 2, none⟩)), (.bool true), (.bool true), (.pointer (some ⟨wr.heap.size, 3, none⟩)), (.string (str y.data)), (.bool true), (.bool true), (.bool true)]) (by kernel_rfl) (by kernel_rfl) rfl rfl ?_ ?_
                  · refine ⟨?_, ?_, ?_, ?_, ?_, ?_, ?_, ?_, ?_, ?_, ?_, ?_, ?_, ?_, ?_, ?_, ?_, ?_, ?_, ?_, ?_, ?_, ?_, ?_, trivial⟩
                    · intro ac wc hs hd hz hf hw K hK
                      have e0 : ac.eval (.tmp 5) = (.int .i64 0) := hf 5 rfl
                      clear hd hz hf hw
                      simp only [Region.wanted, if_true, Oper.wp, execOp, resolve, List.map_toArray, List.map_cons, List.map_nil, Option.map_some, Option.map_none, e0]
                      go_simp
                      exact hK _ _ rfl (Same.refl _ _)
                    · intro ac wc hs hd hz hf hw K hK
                      have e0 : ac.eval (.tmp 68) = (.int .i64 0) := hw 0 rfl
                      clear hd hz hf hw
                      simp only [Region.wanted, if_true, Oper.wp, execOp, resolve, List.map_toArray, List.map_cons, List.map_nil, Option.map_some, Option.map_none, e0]
                      go_simp
                      exact hK _ _ rfl (Same.refl _ _)
                    · intro ac wc hs hd hz hf hw K hK
                      have e0 : ac.eval (.tmp 69) = (.bool false) := hw 1 rfl
                      clear hd hz hf hw
                      simp only [Region.wanted, if_true, Oper.wp, execOp, resolve, List.map_toArray, List.map_cons, List.map_nil, Option.map_some, Option.map_none, e0]
                      go_simp
                      exact hK _ _ rfl (Same.refl _ _)
                    · intro ac wc hs hd hz hf hw K hK
                      have eg : ac.eval (.tmp 70) = .bool false := hw 2 rfl
                      refine skip_wanted (j := 2) (d := 70) (b := false) rfl rfl hz (of_decide_eq_true rfl) eg ?_
                      clear eg
                      exact hK _ _ rfl (Same.refl _ _)
                    · intro ac wc hs hd hz hf hw K hK
                      have eg : ac.eval (.tmp 70) = .bool false := hw 2 rfl
                      refine skip_wanted (j := 2) (d := 70) (b := false) rfl rfl hz (of_decide_eq_true rfl) eg ?_
                      clear eg
                      exact hK _ _ rfl (Same.refl _ _)
                    · intro ac wc hs hd hz hf hw K hK
                      have eg : ac.eval (.tmp 70) = .bool false := hw 2 rfl
                      refine skip_wanted (j := 2) (d := 70) (b := false) rfl rfl hz (of_decide_eq_true rfl) eg ?_
                      clear eg
                      exact hK _ _ rfl (Same.refl _ _)
                    · intro ac wc hs hd hz hf hw K hK
                      have eg : ac.eval (.tmp 70) = .bool false := hw 2 rfl
                      refine skip_wanted (j := 2) (d := 70) (b := false) rfl rfl hz (of_decide_eq_true rfl) eg ?_
                      clear eg
                      exact hK _ _ rfl (Same.refl _ _)
                    · intro ac wc hs hd hz hf hw K hK
                      have eg : ac.eval (.tmp 70) = .bool false := hw 2 rfl
                      refine skip_wanted (j := 2) (d := 70) (b := false) rfl rfl hz (of_decide_eq_true rfl) eg ?_
                      clear eg
                      exact hK _ _ rfl (Same.refl _ _)
                    · intro ac wc hs hd hz hf hw K hK
                      have eg : ac.eval (.tmp 70) = .bool false := hw 2 rfl
                      refine skip_wanted (j := 2) (d := 70) (b := false) rfl rfl hz (of_decide_eq_true rfl) eg ?_
                      clear eg
                      exact hK _ _ rfl (Same.refl _ _)
                    · intro ac wc hs hd hz hf hw K hK
                      have eg : ac.eval (.tmp 70) = .bool false := hw 2 rfl
                      refine skip_wanted (j := 2) (d := 70) (b := false) rfl rfl hz (of_decide_eq_true rfl) eg ?_
                      clear eg
                      exact hK _ _ rfl (Same.refl _ _)
                    · intro ac wc hs hd hz hf hw K hK
                      have eg : ac.eval (.tmp 70) = .bool false := hw 2 rfl
                      refine skip_wanted (j := 2) (d := 70) (b := false) rfl rfl hz (of_decide_eq_true rfl) eg ?_
                      clear eg
                      exact hK _ _ rfl (Same.refl _ _)
                    · intro ac wc hs hd hz hf hw K hK
                      have eg : ac.eval (.tmp 70) = .bool false := hw 2 rfl
                      refine skip_wanted (j := 2) (d := 70) (b := false) rfl rfl hz (of_decide_eq_true rfl) eg ?_
                      clear eg
                      exact hK _ _ rfl (Same.refl _ _)
                    · intro ac wc hs hd hz hf hw K hK
                      have eg : ac.eval (.tmp 70) = .bool false := hw 2 rfl
                      refine skip_wanted (j := 2) (d := 70) (b := false) rfl rfl hz (of_decide_eq_true rfl) eg ?_
                      clear eg
                      exact hK _ _ rfl (Same.refl _ _)
                    · intro ac wc hs hd hz hf hw K hK
                      have eg : ac.eval (.tmp 70) = .bool false := hw 2 rfl
                      refine skip_wanted (j := 2) (d := 70) (b := false) rfl rfl hz (of_decide_eq_true rfl) eg ?_
                      clear eg
                      exact hK _ _ rfl (Same.refl _ _)
                    · intro ac wc hs hd hz hf hw K hK
                      have e0 : ac.eval (.tmp 70) = (.bool false) := hw 2 rfl
                      have e1 : ac.eval (.tmp 81) = undef := hw 13 rfl
                      clear hd hz hf hw
                      simp only [Region.wanted, if_true, Oper.wp, execOp, resolve, List.map_toArray, List.map_cons, List.map_nil, Option.map_some, Option.map_none, e0, e1]
                      go_simp
                      exact hK _ _ rfl (Same.refl _ _)
                    · intro ac wc hs hd hz hf hw K hK
                      have e0 : ac.eval (.tmp 82) = (.bool false) := hw 14 rfl
                      clear hd hz hf hw
                      simp only [Region.wanted, if_true, Oper.wp, execOp, resolve, List.map_toArray, List.map_cons, List.map_nil, Option.map_some, Option.map_none, e0]
                      go_simp
                      exact hK _ _ rfl (Same.refl _ _)
                    · intro ac wc hs hd hz hf hw K hK
                      have eg : ac.eval (.tmp 83) = .bool false := hw 15 rfl
                      refine run_wanted (j := 15) (d := 83) (b := false) rfl rfl hz (of_decide_eq_true rfl) eg ?_
                      clear eg
                      have e0 : ac.eval (.tmp 6) = (.pointer (some ⟨wr.heap.size, 0, none⟩)) := hf 6 rfl
                      clear hd hz hf hw
                      simp only [Oper.wp, execOp, resolve, List.map_toArray, List.map_cons, List.map_nil, Option.map_some, Option.map_none, e0]
                      go_simp
                      exact hK _ _ rfl (Same.refl _ _)
                    · intro ac wc hs hd hz hf hw K hK
                      have eg : ac.eval (.tmp 83) = .bool false := hw 15 rfl
                      refine run_wanted (j := 15) (d := 83) (b := false) rfl rfl hz (of_decide_eq_true rfl) eg ?_
                      clear eg
                      have e0 : ac.eval (.tmp 84) = (.pointer (some ⟨wr.heap.size, 2, none⟩)) := hw 16 rfl
                      have m0 : wc.cell? ⟨wr.heap.size, 2, none⟩ = some (.bool true) := hs.cell (p := ⟨wr.heap.size, 2, none⟩) trivial b2
                      clear hd hz hf hw
                      simp only [Oper.wp, execOp, resolve, List.map_toArray, List.map_cons, List.map_nil, Option.map_some, Option.map_none, e0]
                      go_simp
                      exact hK _ _ rfl (Same.refl _ _)
                    · intro ac wc hs hd hz hf hw K hK
                      have eg : ac.eval (.tmp 83) = .bool false := hw 15 rfl
                      refine run_wanted (j := 15) (d := 83) (b := false) rfl rfl hz (of_decide_eq_true rfl) eg ?_
                      clear eg
                      have e0 : ac.eval (.tmp 85) = (.bool true) := hw 17 rfl
                      clear hd hz hf hw
                      simp only [Oper.wp, execOp, resolve, List.map_toArray, List.map_cons, List.map_nil, Option.map_some, Option.map_none, e0]
                      go_simp
                      exact hK _ _ rfl (Same.refl _ _)
                    · intro ac wc hs hd hz hf hw K hK
                      have eg : ac.eval (.tmp 86) = .bool true := hw 18 rfl
                      refine run_wanted (j := 18) (d := 86) (b := true) rfl rfl hz (of_decide_eq_true rfl) eg ?_
                      clear eg
                      have e0 : ac.eval (.tmp 6) = (.pointer (some ⟨wr.heap.size, 0, none⟩)) := hf 6 rfl
                      clear hd hz hf hw
                      simp only [Oper.wp, execOp, resolve, List.map_toArray, List.map_cons, List.map_nil, Option.map_some, Option.map_none, e0]
                      go_simp
                      exact hK _ _ rfl (Same.refl _ _)
                    · intro ac wc hs hd hz hf hw K hK
                      have eg : ac.eval (.tmp 86) = .bool true := hw 18 rfl
                      refine run_wanted (j := 18) (d := 86) (b := true) rfl rfl hz (of_decide_eq_true rfl) eg ?_
                      clear eg
                      have e0 : ac.eval (.tmp 87) = (.pointer (some ⟨wr.heap.size, 3, none⟩)) := hw 19 rfl
                      have m0 : wc.cell? ⟨wr.heap.size, 3, none⟩ = some (.string (str y.data)) := hs.cell (p := ⟨wr.heap.size, 3, none⟩) trivial b3
                      clear hd hz hf hw
                      simp only [Oper.wp, execOp, resolve, List.map_toArray, List.map_cons, List.map_nil, Option.map_some, Option.map_none, e0]
                      go_simp
                      exact hK _ _ rfl (Same.refl _ _)
                    · intro ac wc hs hd hz hf hw K hK
                      have eg : ac.eval (.tmp 86) = .bool true := hw 18 rfl
                      refine run_wanted (j := 18) (d := 86) (b := true) rfl rfl hz (of_decide_eq_true rfl) eg ?_
                      clear eg
                      have e0 : ac.eval (.tmp 88) = (.string (str y.data)) := hw 20 rfl
                      clear hd hz hf hw
                      simp only [Oper.wp, execOp, resolve, List.map_toArray, List.map_cons, List.map_nil, Option.map_some, Option.map_none, e0]
                      go_simp
                      exact hK _ _ rfl (Same.refl _ _)
                    · intro ac wc hs hd hz hf hw K hK
                      have eg : ac.eval (.tmp 83) = .bool false := hw 15 rfl
                      refine run_wanted (j := 15) (d := 83) (b := false) rfl rfl hz (of_decide_eq_true rfl) eg ?_
                      clear eg
                      have e0 : ac.eval (.tmp 86) = (.bool true) := hw 18 rfl
                      have e1 : ac.eval (.tmp 89) = (.bool true) := hw 21 rfl
                      clear hd hz hf hw
                      simp only [Oper.wp, execOp, resolve, List.map_toArray, List.map_cons, List.map_nil, Option.map_some, Option.map_none, e0, e1]
                      go_simp
                      exact hK _ _ rfl (Same.refl _ _)
                    · intro ac wc hs hd hz hf hw K hK
                      have e0 : ac.eval (.tmp 83) = (.bool false) := hw 15 rfl
                      have e1 : ac.eval (.tmp 90) = (.bool true) := hw 22 rfl
                      clear hd hz hf hw
                      simp only [Region.wanted, if_true, Oper.wp, execOp, resolve, List.map_toArray, List.map_cons, List.map_nil, Option.map_some, Option.map_none, e0, e1]
                      go_simp
                      exact hK _ _ rfl (Same.refl _ _)
                  · intro wR hsR
                    simp only [putAll, Act.put, List.setIfInBounds_toArray, List.set_cons_succ, List.set_cons_zero]
                    go_wp2
                    go_ret
                    exact MayP.no (Hng.out fun g => HVD.out (g.vers _ HyM.out)) ((HS.out.trans ((HS8.out.trans HSi.out).trans HS9.out)).trans hsR)
            · obtain ⟨ad2, rfl, -, d0, d1, d2, d3⟩ := VerR.cells (RowR.keepAll Hvr.out (HS8.out.trans HSi.out)) hjl
              have hym : c.vers[i2 + 1] ∈ c.vers := List.getElem_mem hjl
              have hvn := fun h1 => vers_next hjl Hso.out Hcl.out h1
              have hvn : (c.vers[i2 + 1].drop = true → c.vers[i2 + 1].data = []) → lessB c.vers[i2].at_ c.vers[i2 + 1].at_ = true → SortV (c.vers.take (i2 + 1 + 1)) ∧ Clean (c.vers.take (i2 + 1 + 1)) := fun h1 h2 => hvn h1 (fun i h => by have e : i = i2 := (by omega); subst e; exact h2)
              have x3 : (0 : Int) ≤ ((i2 + 1 : Nat) : Int) := by omega
              have x4 : ((i2 + 1 : Nat) : Int) < (c.vers.length : Int) := by omega
              have hab2 := World.block_lt_of_cell? wr _ d0
              have x3 : (0 : Int) ≤ (i2 : Int) + 1 := by omega
              have x4 : (i2 : Int) + 1 < (c.vers.length : Int) := by omega
              have Hvn := Lib.hid hvn
              have HyM := Lib.hid hym
              clear hvn hym
              go_wp2
              have rv := Row.new wr 69 (verCs c.vers[i2 + 1])
              have hS9 := (Same.refl (fun _ => True) wr).alloc (.cells (verCs c.vers[i2 + 1]).toArray 69)
              simp only [verCs] at rv hS9
              clear d0 d1 d2 d3 hab2
              revert rv hS9
              generalize wr.alloc (.cells _ 69) = W9
              intro rv hS9
              have b0 : W9.cell? ⟨wr.heap.size, 0, none⟩ = some (.int .i64 c.vers[i2 + 1].at_.wall) := rv.cell 0
              have b1 : W9.cell? ⟨wr.heap.size, 1, none⟩ = some (.int .i64 c.vers[i2 + 1].at_.tie) := rv.cell 1
              have b2 : W9.cell? ⟨wr.heap.size, 2, none⟩ = some (.bool c.vers[i2 + 1].drop) := rv.cell 2
              have b3 : W9.cell? ⟨wr.heap.size, 3, none⟩ = some (.string (str c.vers[i2 + 1].data)) := rv.cell 3
              have z9 := rv.lt
              have a1 : W9.cell? ⟨wo.heap.size, 1, none⟩ = some (.slice (some ad2) c.vers.length cu) := hS9.cell (p := ⟨wo.heap.size, 1, none⟩) trivial a1
              have HS9 := Lib.hid hS9
              clear rv hS9
              obtain ⟨ad2', e2', -, p0, p1, -, -⟩ := VerR.cells (RowR.keepAll Hvr.out (HS8.out.trans HSi.out)) (i := i2) (by omega)
              injection e2' with e2'
              subst e2'
              have gl := fun W => stless_any c.vers[i2].at_ c.vers[i2 + 1].at_ W
              have hns := fun h => not_sort (l := c.vers) hjl h
              have Hns := Lib.hid hns
              clear hns
              generalize c.vers[i2] = yp at *
              have x5 : (0 : Int) ≤ (i2 : Int) := by omega
              have x6 : (i2 : Int) < (c.vers.length : Int) := by omega
              have x7 : (0 : Int) < (i2 : Int) + 1 := by omega
              have x8 : IntKind.i64.wrap (i2 : Int) = (i2 : Int) := by rw [IntKind.wrap_i64]; omega
              have p0 := HS9.out.cell (p := (ad2.add (i2 * 4))) trivial p0
              have p1 := HS9.out.cell (p := ⟨(ad2.add (i2 * 4)).block, (ad2.add (i2 * 4)).off + 1, none⟩) trivial p1
              generalize c.vers[i2 + 1] = y at *
              cases hls : lessB yp.at_ y.at_
              · have hns := Hns.out hls
                have Hn2 := Lib.hid hns
                rw [hls] at gl
                clear hls hns
                go_wp2
                refine wp_region_eq_lit (vs := [(.int .i64 ((i2 : Int) + 1)), (.bool true), (.bool true), (.pointer (some ⟨wo.heap.size, 1, none⟩)), (.slice (some ad2) c.vers.length cu), (.int .i64 ((i2 : Int) + 1)), (.int .i64 i2), (.pointer (some (ad2.add (i2 * 4)))), (.pointer (some (ad2.add (i2 * 4)))), (stV yp.at_), (.pointer (some ⟨wr.heap.size, 0, none⟩)), (stV y.at_), (.bool false), (.bool true), (.bool true), (.bool true), undef, undef, undef, undef, undef, undef, undef, (.bool true)]) (by kernel_rfl) (by kernel_rfl) rfl rfl ?_ ?_
                · refine ⟨?_, ?_, ?_, ?_, ?_, ?_, ?_, ?_, ?_, ?_, ?_, ?_, ?_, ?_, ?_, ?_, ?_, ?_, ?_, ?_, ?_, ?_, ?_, ?_, trivial⟩
                  · intro ac wc hs hd hz hf hw K hK
                    have e0 : ac.eval (.tmp 5) = (.int .i64 ((i2 : Int) + 1)) := hf 5 rfl
                    clear hd hz hf hw
                    simp only [Region.wanted, if_true, Oper.wp, execOp, resolve, List.map_toArray, List.map_cons, List.map_nil, Option.map_some, Option.map_none, e0]
                    go_simp
                    exact hK _ _ rfl (Same.refl _ _)
                  · intro ac wc hs hd hz hf hw K hK
                    have e0 : ac.eval (.tmp 68) = (.int .i64 ((i2 : Int) + 1)) := hw 0 rfl
                    clear hd hz hf hw
                    simp only [Region.wanted, if_true, Oper.wp, execOp, resolve, List.map_toArray, List.map_cons, List.map_nil, Option.map_some, Option.map_none, e0]
                    go_simp
                    exact hK _ _ rfl (Same.refl _ _)
                  · intro ac wc hs hd hz hf hw K hK
                    have e0 : ac.eval (.tmp 69) = (.bool true) := hw 1 rfl
                    clear hd hz hf hw
                    simp only [Region.wanted, if_true, Oper.wp, execOp, resolve, List.map_toArray, List.map_cons, List.map_nil, Option.map_some, Option.map_none, e0]
                    go_simp
                    exact hK _ _ rfl (Same.refl _ _)
                  · intro ac wc hs hd hz hf hw K hK
                    have eg : ac.eval (.tmp 70) = .bool true := hw 2 rfl
                    refine run_wanted (j := 2) (d := 70) (b := true) rfl rfl hz (of_decide_eq_true rfl) eg ?_
                    clear eg
                    have e0 : ac.eval (.tmp 4) = (.pointer (some ⟨wo.heap.size, 0, none⟩)) := hf 4 rfl
                    clear hd hz hf hw
                    simp only [Oper.wp, execOp, resolve, List.map_toArray, List.map_cons, List.map_nil, Option.map_some, Option.map_none, e0]
                    go_simp
                    exact hK _ _ rfl (Same.refl _ _)
                  · intro ac wc hs hd hz hf hw K hK
                    have eg : ac.eval (.tmp 70) = .bool true := hw 2 rfl
                    refine run_wanted (j := 2) (d := 70) (b := true) rfl rfl hz (of_decide_eq_true rfl) eg ?_
                    clear eg
                    have e0 : ac.eval (.tmp 71) = (.pointer (some ⟨wo.heap.size, 1, none⟩)) := hw 3 rfl
                    have m0 : wc.cell? ⟨wo.heap.size, 1, none⟩ = some (.slice (some ad2) c.vers.length cu) := hs.cell (p := ⟨wo.heap.size, 1, none⟩) trivial a1
                    clear hd hz hf hw
                    simp only [Oper.wp, execOp, resolve, List.map_toArray, List.map_cons, List.map_nil, Option.map_some, Option.map_none, e0]
                    go_simp
                    exact hK _ _ rfl (Same.refl _ _)
                  · intro ac wc hs hd hz hf hw K hK
                    have eg : ac.eval (.tmp 70) = .bool true := hw 2 rfl
                    refine run_wanted (j := 2) (d := 70) (b := true) rfl rfl hz (of_decide_eq_true rfl) eg ?_
                    clear eg
                    have e0 : ac.eval (.tmp 5) = (.int .i64 ((i2 : Int) + 1)) := hf 5 rfl
                    clear hd hz hf hw
                    simp only [Oper.wp, execOp, resolve, List.map_toArray, List.map_cons, List.map_nil, Option.map_some, Option.map_none, e0]
                    go_simp
                    exact hK _ _ rfl (Same.refl _ _)
                  · intro ac wc hs hd hz hf hw K hK
                    have eg : ac.eval (.tmp 70) = .bool true := hw 2 rfl
                    refine run_wanted (j := 2) (d := 70) (b := true) rfl rfl hz (of_decide_eq_true rfl) eg ?_
                    clear eg
                    have e0 : ac.eval (.tmp 73) = (.int .i64 ((i2 : Int) + 1)) := hw 5 rfl
                    clear hd hz hf hw
                    simp only [Oper.wp, execOp, resolve, List.map_toArray, List.map_cons, List.map_nil, Option.map_some, Option.map_none, e0]
                    go_simp
                    exact hK _ _ rfl (Same.refl _ _)
                  · intro ac wc hs hd hz hf hw K hK
                    have eg : ac.eval (.tmp 70) = .bool true := hw 2 rfl
                    refine run_wanted (j := 2) (d := 70) (b := true) rfl rfl hz (of_decide_eq_true rfl) eg ?_
                    clear eg
                    have e0 : ac.eval (.tmp 72) = (.slice (some ad2) c.vers.length cu) := hw 4 rfl
                    have e1 : ac.eval (.tmp 74) = (.int .i64 i2) := hw 6 rfl
                    clear hd hz hf hw
                    simp only [Oper.wp, execOp, resolve, List.map_toArray, List.map_cons, List.map_nil, Option.map_some, Option.map_none, e0, e1]
                    go_simp
                    exact hK _ _ rfl (Same.refl _ _)
                  · intro ac wc hs hd hz hf hw K hK
                    have eg : ac.eval (.tmp 70) = .bool true := hw 2 rfl
                    refine run_wanted (j := 2) (d := 70) (b := true) rfl rfl hz (of_decide_eq_true rfl) eg ?_
                    clear eg
                    have e0 : ac.eval (.tmp 75) = (.pointer (some (ad2.add (i2 * 4)))) := hw 7 rfl
                    clear hd hz hf hw
                    simp only [Oper.wp, execOp, resolve, List.map_toArray, List.map_cons, List.map_nil, Option.map_some, Option.map_none, e0]
                    go_simp
                    exact hK _ _ rfl (Same.refl _ _)
                  · intro ac wc hs hd hz hf hw K hK
                    have eg : ac.eval (.tmp 70) = .bool true := hw 2 rfl
                    refine run_wanted (j := 2) (d := 70) (b := true) rfl rfl hz (of_decide_eq_true rfl) eg ?_
                    clear eg
                    have e0 : ac.eval (.tmp 76) = (.pointer (some (ad2.add (i2 * 4)))) := hw 8 rfl
                    have m0 : wc.cell? (ad2.add (i2 * 4)) = some (.int .i64 yp.at_.wall) := hs.cell (p := (ad2.add (i2 * 4))) trivial p0
                    have m1 : wc.cell? ⟨(ad2.add (i2 * 4)).block, (ad2.add (i2 * 4)).off + 1, none⟩ = some (.int .i64 yp.at_.tie) := hs.cell (p := ⟨(ad2.add (i2 * 4)).block, (ad2.add (i2 * 4)).off + 1, none⟩) trivial p1
                    clear hd hz hf hw
                    simp only [Oper.wp, execOp, resolve, List.map_toArray, List.map_cons, List.map_nil, Option.map_some, Option.map_none, e0]
                    go_simp
                    exact hK _ _ rfl (Same.refl _ _)
                  · intro ac wc hs hd hz hf hw K hK
                    have eg : ac.eval (.tmp 70) = .bool true := hw 2 rfl
                    refine run_wanted (j := 2) (d := 70) (b := true) rfl rfl hz (of_decide_eq_true rfl) eg ?_
                    clear eg
                    have e0 : ac.eval (.tmp 6) = (.pointer (some ⟨wr.heap.size, 0, none⟩)) := hf 6 rfl
                    clear hd hz hf hw
                    simp only [Oper.wp, execOp, resolve, List.map_toArray, List.map_cons, List.map_nil, Option.map_some, Option.map_none, e0]
                    go_simp
                    exact hK _ _ rfl (Same.refl _ _)
                  · intro ac wc hs hd hz hf hw K hK
                    have eg : ac.eval (.tmp 70) = .bool true := hw 2 rfl
                    refine run_wanted (j := 2) (d := 70) (b := true) rfl rfl hz (of_decide_eq_true rfl) eg ?_
                    clear eg
                    have e0 : ac.eval (.tmp 78) = (.pointer (some ⟨wr.heap.size, 0, none⟩)) := hw 10 rfl
                    have m0 : wc.cell? ⟨wr.heap.size, 0, none⟩ = some (.int .i64 y.at_.wall) := hs.cell (p := ⟨wr.heap.size, 0, none⟩) trivial b0
                    have m1 : wc.cell? ⟨wr.heap.size, 1, none⟩ = some (.int .i64 y.at_.tie) := hs.cell (p := ⟨wr.heap.size, 1, none⟩) trivial b1
                    clear hd hz hf hw
                    simp only [Oper.wp, execOp, resolve, List.map_toArray, List.map_cons, List.map_nil, Option.map_some, Option.map_none, e0]
                    go_simp
                    exact hK _ _ rfl (Same.refl _ _)
                  · intro ac wc hs hd hz hf hw K hK
                    have eg : ac.eval (.tmp 70) = .bool true := hw 2 rfl
                    refine run_wanted (j := 2) (d := 70) (b := true) rfl rfl hz (of_decide_eq_true rfl) eg ?_
                    clear eg
                    have e0 : ac.eval (.tmp 77) = (stV yp.at_) := hw 9 rfl
                    have e1 : ac.eval (.tmp 79) = (stV y.at_) := hw 11 rfl
                    clear hd hz hf hw
                    simp only [Oper.wp, execOp, resolve, List.map_toArray, List.map_cons, List.map_nil, Option.map_some, Option.map_none, e0, e1]
                    go_simp
                    refine (gl _).mono ?_
                    rintro e wd ⟨rfl, hs2⟩
                    exact hK _ _ rfl hs2
                  · intro ac wc hs hd hz hf hw K hK
                    have eg : ac.eval (.tmp 70) = .bool true := hw 2 rfl
                    refine run_wanted (j := 2) (d := 70) (b := true) rfl rfl hz (of_decide_eq_true rfl) eg ?_
                    clear eg
                    have e0 : ac.eval (.tmp 80) = (.bool false) := hw 12 rfl
                    clear hd hz hf hw
                    simp only [Oper.wp, execOp, resolve, List.map_toArray, List.map_cons, List.map_nil, Option.map_some, Option.map_none, e0]
                    go_simp
                    exact hK _ _ rfl (Same.refl _ _)
                  · intro ac wc hs hd hz hf hw K hK
                    have e0 : ac.eval (.tmp 70) = (.bool true) := hw 2 rfl
                    have e1 : ac.eval (.tmp 81) = (.bool true) := hw 13 rfl
                    clear hd hz hf hw
                    simp only [Region.wanted, if_true, Oper.wp, execOp, resolve, List.map_toArray, List.map_cons, List.map_nil, Option.map_some, Option.map_none, e0, e1]
                    go_simp
                    exact hK _ _ rfl (Same.refl _ _)
                  · intro ac wc hs hd hz hf hw K hK
                    have e0 : ac.eval (.tmp 82) = (.bool true) := hw 14 rfl
                    clear hd hz hf hw
                    simp only [Region.wanted, if_true, Oper.wp, execOp, resolve, List.map_toArray, List.map_cons, List.map_nil, Option.map_some, Option.map_none, e0]
                    go_simp
                    exact hK _ _ rfl (Same.refl _ _)
                  · intro ac wc hs hd hz hf hw K hK
                    have eg : ac.eval (.tmp 83) = .bool true := hw 15 rfl
                    refine skip_wanted (j := 15) (d := 83) (b := true) rfl rfl hz (of_decide_eq_true rfl) eg ?_
                    clear eg
                    exact hK _ _ rfl (Same.refl _ _)
                  · intro ac wc hs hd hz hf hw K hK
                    have eg : ac.eval (.tmp 83) = .bool true := hw 15 rfl
                    refine skip_wanted (j := 15) (d := 83) (b := true) rfl rfl hz (of_decide_eq_true rfl) eg ?_
                    clear eg
                    exact hK _ _ rfl (Same.refl _ _)
                  · intro ac wc hs hd hz hf hw K hK
                    have eg : ac.eval (.tmp 83) = .bool true := hw 15 rfl
                    refine skip_wanted (j := 15) (d := 83) (b := true) rfl rfl hz (of_decide_eq_true rfl) eg ?_
                    clear eg
                    exact hK _ _ rfl (Same.refl _ _)
                  · intro ac wc hs hd hz hf hw K hK
                    have eg : ac.eval (.tmp 86) = undef := hw 18 rfl
                    refine skip_undef (j := 18) (d := 86) rfl rfl hz (of_decide_eq_true rfl) eg ?_
                    exact hK _ _ rfl (Same.refl _ _)
                  · intro ac wc hs hd hz hf hw K hK
                    have eg : ac.eval (.tmp 86) = undef := hw 18 rfl
                    refine skip_undef (j := 18) (d := 86) rfl rfl hz (of_decide_eq_true rfl) eg ?_
                    exact hK _ _ rfl (Same.refl _ _)
                  · intro ac wc hs hd hz hf hw K hK
                    have eg : ac.eval (.tmp 86) = undef := hw 18 rfl
                    refine skip_undef (j := 18) (d := 86) rfl rfl hz (of_decide_eq_true rfl) eg ?_
                    exact hK _ _ rfl (Same.refl _ _)
                  · intro ac wc hs hd hz hf hw K hK
                    have eg : ac.eval (.tmp 83) = .bool true := hw 15 rfl
                    refine skip_wanted (j := 15) (d := 83) (b := true) rfl rfl hz (of_decide_eq_true rfl) eg ?_
                    clear eg
                    exact hK _ _ rfl (Same.refl _ _)
                  · intro ac wc hs hd hz hf hw K hK
                    have e0 : ac.eval (.tmp 83) = (.bool true) := hw 15 rfl
                    have e1 : ac.eval (.tmp 90) = undef := hw 22 rfl
                    clear hd hz hf hw
                    simp only [Region.wanted, if_true, Oper.wp, execOp, resolve, List.map_toArray, List.map_cons, List.map_nil, Option.map_some, Option.map_none, e0, e1]
                    go_simp
                    exact hK _ _ rfl (Same.refl _ _)
                · intro wR hsR
                  simp only [putAll, Act.put, List.setIfInBounds_toArray, List.set_cons_succ, List.set_cons_zero]
                  go_wp2
                  go_ret
                  exact MayP.no (Hng.out fun g => Hn2.out g.sort) ((HS.out.trans ((HS8.out.trans HSi.out).trans HS9.out)).trans hsR)
              · have HLS := Lib.hid hls
                rw [hls] at gl
                clear hls
                cases hdr : y.drop
                · rw [hdr] at b2
                  have hVD : y.drop = true → y.data = [] := fun h => by rw [hdr] at h; cases h
                  have HVD := Lib.hid hVD
                  clear hVD hdr
                  go_wp2
                  refine wp_region_eq_lit (vs := [(.int .i64 ((i2 : Int) + 1)), (.bool true), (.bool true), (.pointer (some ⟨wo.heap.size, 1, none⟩)), (.slice (some ad2) c.vers.length cu), (.int .i64 ((i2 : Int) + 1)), (.int .i64 i2), (.pointer (some (ad2.add (i2 * 4)))), (.pointer (some (ad2.add (i2 * 4)))), (stV yp.at_), (.pointer (some ⟨wr.heap.size, 0, none⟩)), (stV y.at_), (.bool true), (.bool false), (.bool false), (.bool false), (.pointer (some ⟨wr.heap.size, 2, none⟩)), (.bool false), (.bool false), undef, undef, undef, (.bool false), (.bool false)]) (by kernel_rfl) (by kernel_rfl) rfl rfl ?_ ?_
                  · refine ⟨?_, ?_, ?_, ?_, ?_, ?_, ?_, ?_, ?_, ?_, ?_, ?_, ?_, ?_, ?_, ?_, ?_, ?_, ?_, ?_, ?_, ?_, ?_, ?_, trivial⟩
                    · intro ac wc hs hd hz hf hw K hK
                      have e0 : ac.eval (.tmp 5) = (.int .i64 ((i2 : Int) + 1)) := hf 5 rfl
                      clear hd hz hf hw
                      simp only [Region.wanted, if_true, Oper.wp, execOp, resolve, List.map_toArray, List.map_cons, List.map_nil, Option.map_some, Option.map_none, e0]
                      go_simp
                      exact hK _ _ rfl (Same.refl _ _)
                    · intro ac wc hs hd hz hf hw K hK
                      have e0 : ac.eval (.tmp 68) = (.int .i64 ((i2 : Int) + 1)) := hw 0 rfl
                      clear hd hz hf hw
                      simp only [Region.wanted, if_true, Oper.wp, execOp, resolve, List.map_toArray, List.map_cons, List.map_nil, Option.map_some, Option.map_none, e0]
                      go_simp
                      exact hK _ _ rfl (Same.refl _ _)
                    · intro ac wc hs hd hz hf hw K hK
                      have e0 : ac.eval (.tmp 69) = (.bool true) := hw 1 rfl
                      clear hd hz hf hw
                      simp only [Region.wanted, if_true, Oper.wp, execOp, resolve, List.map_toArray, List.map_cons, List.map_nil, Option.map_some, Option.map_none, e0]
                      go_simp
                      exact hK _ _ rfl (Same.refl _ _)
                    · intro ac wc hs hd hz hf hw K hK
                      have eg : ac.eval (.tmp 70) = .bool true := hw 2 rfl
                      refine run_wanted (j := 2) (d := 70) (b := true) rfl rfl hz (of_decide_eq_true rfl) eg ?_
                      clear eg
                      have e0 : ac.eval (.tmp 4) = (.pointer (some ⟨wo.heap.size, 0, none⟩)) := hf 4 rfl
                      clear hd hz hf hw
                      simp only [Oper.wp, execOp, resolve, List.map_toArray, List.map_cons, List.map_nil, Option.map_some, Option.map_none, e0]
                      go_simp
                      exact hK _ _ rfl (Same.refl _ _)
                    · intro ac wc hs hd hz hf hw K hK
                      have eg : ac.eval (.tmp 70) = .bool true := hw 2 rfl
                      refine run_wanted (j := 2) (d := 70) (b := true) rfl rfl hz (of_decide_eq_true rfl) eg ?_
                      clear eg
                      have e0 : ac.eval (.tmp 71) = (.pointer (some ⟨wo.heap.size, 1, none⟩)) := hw 3 rfl
                      have m0 : wc.cell? ⟨wo.heap.size, 1, none⟩ = some (.slice (some ad2) c.vers.length cu) := hs.cell (p := ⟨wo.heap.size, 1, none⟩) trivial a1
                      clear hd hz hf hw
                      simp only [Oper.wp, execOp, resolve, List.map_toArray, List.map_cons, List.map_nil, Option.map_some, Option.map_none, e0]
                      go_simp
                      exact hK _ _ rfl (Same.refl _ _)
                    · intro ac wc hs hd hz hf hw K hK
                      have eg : ac.eval (.tmp 70) = .bool true := hw 2 rfl
                      refine run_wanted (j := 2) (d := 70) (b := true) rfl rfl hz (of_decide_eq_true rfl) eg ?_
                      clear eg
                      have e0 : ac.eval (.tmp 5) = (.int .i64 ((i2 : Int) + 1)) := hf 5 rfl
                      clear hd hz hf hw
                      simp only [Oper.wp, execOp, resolve, List.map_toArray, List.map_cons, List.map_nil, Option.map_some, Option.map_none, e0]
                      go_simp
                      exact hK _ _ rfl (Same.refl _ _)
                    · intro ac wc hs hd hz hf hw K hK
                      have eg : ac.eval (.tmp 70) = .bool true := hw 2 rfl
                      refine run_wanted (j := 2) (d := 70) (b := true) rfl rfl hz (of_decide_eq_true rfl) eg ?_
                      clear eg
                      have e0 : ac.eval (.tmp 73) = (.int .i64 ((i2 : Int) + 1)) := hw 5 rfl
                      clear hd hz hf hw
                      simp only [Oper.wp, execOp, resolve, List.map_toArray, List.map_cons, List.map_nil, Option.map_some, Option.map_none, e0]
                      go_simp
                      exact hK _ _ rfl (Same.refl _ _)
                    · intro ac wc hs hd hz hf hw K hK
                      have eg : ac.eval (.tmp 70) = .bool true := hw 2 rfl
                      refine run_wanted (j := 2) (d := 70) (b := true) rfl rfl hz (of_decide_eq_true rfl) eg ?_
                      clear eg
                      have e0 : ac.eval (.tmp 72) = (.slice (some ad2) c.vers.length cu) := hw 4 rfl
                      have e1 : ac.eval (.tmp 74) = (.int .i64 i2) := hw 6 rfl
                      clear hd hz hf hw
                      simp only [Oper.wp, execOp, resolve, List.map_toArray, List.map_cons, List.map_nil, Option.map_some, Option.map_none, e0, e1]
                      go_simp
                      exact hK _ _ rfl (Same.refl _ _)
                    · intro ac wc hs hd hz hf hw K hK
                      have eg : ac.eval (.tmp 70) = .bool true := hw 2 rfl
                      refine run_wanted (j := 2) (d := 70) (b := true) rfl rfl hz (of_decide_eq_true rfl) eg ?_
                      clear eg
                      have e0 : ac.eval (.tmp 75) = (.pointer (some (ad2.add (i2 * 4)))) := hw 7 rfl
                      clear hd hz hf hw
                      simp only [Oper.wp, execOp, resolve, List.map_toArray, List.map_cons, List.map_nil, Option.map_some, Option.map_none, e0]
                      go_simp
                      exact hK _ _ rfl (Same.refl _ _)
                    · intro ac wc hs hd hz hf hw K hK
                      have eg : ac.eval (.tmp 70) = .bool true := hw 2 rfl
                      refine run_wanted (j := 2) (d := 70) (b := true) rfl rfl hz (of_decide_eq_true rfl) eg ?_
                      clear eg
                      have e0 : ac.eval (.tmp 76) = (.pointer (some (ad2.add (i2 * 4)))) := hw 8 rfl
                      have m0 : wc.cell? (ad2.add (i2 * 4)) = some (.int .i64 yp.at_.wall) := hs.cell (p := (ad2.add (i2 * 4))) trivial p0
                      have m1 : wc.cell? ⟨(ad2.add (i2 * 4)).block, (ad2.add (i2 * 4)).off + 1, none⟩ = some (.int .i64 yp.at_.tie) := hs.cell (p := ⟨(ad2.add (i2 * 4)).block, (ad2.add (i2 * 4)).off + 1, none⟩) trivial p1
                      clear hd hz hf hw
                      simp only [Oper.wp, execOp, resolve, List.map_toArray, List.map_cons, List.map_nil, Option.map_some, Option.map_none, e0]
                      go_simp
                      exact hK _ _ rfl (Same.refl _ _)
                    · intro ac wc hs hd hz hf hw K hK
                      have eg : ac.eval (.tmp 70) = .bool true := hw 2 rfl
                      refine run_wanted (j := 2) (d := 70) (b := true) rfl rfl hz (of_decide_eq_true rfl) eg ?_
                      clear eg
                      have e0 : ac.eval (.tmp 6) = (.pointer (some ⟨wr.heap.size, 0, none⟩)) := hf 6 rfl
                      clear hd hz hf hw
                      simp only [Oper.wp, execOp, resolve, List.map_toArray, List.map_cons, List.map_nil, Option.map_some, Option.map_none, e0]
                      go_simp
                      exact hK _ _ rfl (Same.refl _ _)
                    · intro ac wc hs hd hz hf hw K hK
                      have eg : ac.eval (.tmp 70) = .bool true := hw 2 rfl
                      refine run_wanted (j := 2) (d := 70) (b := true) rfl rfl hz (of_decide_eq_true rfl) eg ?_
                      clear eg
                      have e0 : ac.eval (.tmp 78) = (.pointer (some ⟨wr.heap.size, 0, none⟩)) := hw 10 rfl
                      have m0 : wc.cell? ⟨wr.heap.size, 0, none⟩ = some (.int .i64 y.at_.wall) := hs.cell (p := ⟨wr.heap.size, 0, none⟩) trivial b0
                      have m1 : wc.cell? ⟨wr.heap.size, 1, none⟩ = some (.int .i64 y.at_.tie) := hs.cell (p := ⟨wr.heap.size, 1, none⟩) trivial b1
                      clear hd hz hf hw
                      simp only [Oper.wp, execOp, resolve, List.map_toArray, List.map_cons, List.map_nil, Option.map_some, Option.map_none, e0]
                      go_simp
                      exact hK _ _ rfl (Same.refl _ _)
                    · intro ac wc hs hd hz hf hw K hK
                      have eg : ac.eval (.tmp 70) = .bool true := hw 2 rfl
                      refine run_wanted (j := 2) (d := 70) (b := true) rfl rfl hz (of_decide_eq_true rfl) eg ?_
                      clear eg
                      have e0 : ac.eval (.tmp 77) = (stV yp.at_) := hw 9 rfl
                      have e1 : ac.eval (.tmp 79) = (stV y.at_) := hw 11 rfl
                      clear hd hz hf hw
                      simp only [Oper.wp, execOp, resolve, List.map_toArray, List.map_cons, List.map_nil, Option.map_some, Option.map_none, e0, e1]
                      go_simp
                      refine (gl _).mono ?_
                      rintro e wd ⟨rfl, hs2⟩
                      exact hK _ _ rfl hs2
                    · intro ac wc hs hd hz hf hw K hK
                      have eg : ac.eval (.tmp 70) = .bool true := hw 2 rfl
                      refine run_wanted (j := 2) (d := 70) (b := true) rfl rfl hz (of_decide_eq_true rfl) eg ?_
                      clear eg
                      have e0 : ac.eval (.tmp 80) = (.bool true) := hw 12 rfl
                      clear hd hz hf hw
                      simp only [Oper.wp, execOp, resolve, List.map_toArray, List.map_cons, List.map_nil, Option.map_some, Option.map_none, e0]
                      go_simp
                      exact hK _ _ rfl (Same.refl _ _)
                    · intro ac wc hs hd hz hf hw K hK
                      have e0 : ac.eval (.tmp 70) = (.bool true) := hw 2 rfl
                      have e1 : ac.eval (.tmp 81) = (.bool false) := hw 13 rfl
                      clear hd hz hf hw
                      simp only [Region.wanted, if_true, Oper.wp, execOp, resolve, List.map_toArray, List.map_cons, List.map_nil, Option.map_some, Option.map_none, e0, e1]
                      go_simp
                      exact hK _ _ rfl (Same.refl _ _)
                    · intro ac wc hs hd hz hf hw K hK
                      have e0 : ac.eval (.tmp 82) = (.bool false) := hw 14 rfl
                      clear hd hz hf hw
                      simp only [Region.wanted, if_true, Oper.wp, execOp, resolve, List.map_toArray, List.map_cons, List.map_nil, Option.map_some, Option.map_none, e0]
                      go_simp
                      exact hK _ _ rfl (Same.refl _ _)
                    · intro ac wc hs hd hz hf hw K hK
                      have eg : ac.eval (.tmp 83) = .bool false := hw 15 rfl
                      refine run_wanted (j := 15) (d := 83) (b := false) rfl rfl hz (of_decide_eq_true rfl) eg ?_
                      clear eg
                      have e0 : ac.eval (.tmp 6) = (.pointer (some ⟨wr.heap.size, 0, none⟩)) := hf 6 rfl
                      clear hd hz hf hw
                      simp only [Oper.wp, execOp, resolve, List.map_toArray, List.map_cons, List.map_nil, Option.map_some, Option.map_none, e0]
                      go_simp
                      exact hK _ _ rfl (Same.refl _ _)
                    · intro ac wc hs hd hz hf hw K hK
                      have eg : ac.eval (.tmp 83) = .bool false := hw 15 rfl
                      refine run_wanted (j := 15) (d := 83) (b := false) rfl rfl hz (of_decide_eq_true rfl) eg ?_
                      clear eg
                      have e0 : ac.eval (.tmp 84) = (.pointer (some ⟨wr.heap.size, 2, none⟩)) := hw 16 rfl
                      have m0 : wc.cell? ⟨wr.heap.size, 2, none⟩ = some (.bool false) := hs.cell (p := ⟨wr.heap.size, 2, none⟩) trivial b2
                      clear hd hz hf hw
                      simp only [Oper.wp, execOp, resolve, List.map_toArray, List.map_cons, List.map_nil, Option.map_some, Option.map_none, e0]
                      go_simp
                      exact hK _ _ rfl (Same.refl _ _)
                    · intro ac wc hs hd hz hf hw K hK
                      have eg : ac.eval (.tmp 83) = .bool false := hw 15 rfl
                      refine run_wanted (j := 15) (d := 83) (b := false) rfl rfl hz (of_decide_eq_true rfl) eg ?_
                      clear eg
                      have e0 : ac.eval (.tmp 85) = (.bool false) := hw 17 rfl
                      clear hd hz hf hw
                      simp only [Oper.wp, execOp, resolve, List.map_toArray, List.map_cons, List.map_nil, Option.map_some, Option.map_none, e0]
                      go_simp
                      exact hK _ _ rfl (Same.refl _ _)
                    · intro ac wc hs hd hz hf hw K hK
                      have eg : ac.eval (.tmp 86) = .bool false := hw 18 rfl
                      refine skip_wanted (j := 18) (d := 86) (b := false) rfl rfl hz (of_decide_eq_true rfl) eg ?_
                      clear eg
                      exact hK _ _ rfl (Same.refl _ _)
                    · intro ac wc hs hd hz hf hw K hK
                      have eg : ac.eval (.tmp 86) = .bool false := hw 18 rfl
                      refine skip_wanted (j := 18) (d := 86) (b := false) rfl rfl hz (of_decide_eq_true rfl) eg ?_
                      clear eg
                      exact hK _ _ rfl (Same.refl _ _)
                    · intro ac wc hs hd hz hf hw K hK
                      have eg : ac.eval (.tmp 86) = .bool false := hw 18 rfl
                      refine skip_wanted (j := 18) (d := 86) (b := false) rfl rfl hz (of_decide_eq_true rfl) eg ?_
                      clear eg
                      exact hK _ _ rfl (Same.refl _ _)
                    · intro ac wc hs hd hz hf hw K hK
                      have eg : ac.eval (.tmp 83) = .bool false := hw 15 rfl
                      refine run_wanted (j := 15) (d := 83) (b := false) rfl rfl hz (of_decide_eq_true rfl) eg ?_
                      clear eg
                      have e0 : ac.eval (.tmp 86) = (.bool false) := hw 18 rfl
                      have e1 : ac.eval (.tmp 89) = undef := hw 21 rfl
                      clear hd hz hf hw
                      simp only [Oper.wp, execOp, resolve, List.map_toArray, List.map_cons, List.map_nil, Option.map_some, Option.map_none, e0, e1]
                      go_simp
                      exact hK _ _ rfl (Same.refl _ _)
                    · intro ac wc hs hd hz hf hw K hK
                      have e0 : ac.eval (.tmp 83) = (.bool false) := hw 15 rfl
                      have e1 : ac.eval (.tmp 90) = (.bool false) := hw 22 rfl
                      clear hd hz hf hw
                      simp only [Region.wanted, if_true, Oper.wp, execOp, resolve, List.map_toArray, List.map_cons, List.map_nil, Option.map_some, Option.map_none, e0, e1]
                      go_simp
                      exact hK _ _ rfl (Same.refl _ _)
                  · intro wR hsR
                    simp only [putAll, Act.put, List.setIfInBounds_toArray, List.set_cons_succ, List.set_cons_zero]
                    go_wp2
                    go_roundw
                    case rel => exact ⟨i2 + 1 + 1, by go_num, by omega, (Hvn.out HVD.out (HLS.out)).1, (Hvn.out HVD.out (HLS.out)).2, (HSi.out.trans HS9.out).trans hsR⟩
                    case measure => simp [intOf]; omega
                · rw [hdr] at b2
                  by_cases hdt : y.data = []
                  · have hVD : y.drop = true → y.data = [] := fun _ => hdt
                    rw [hdt] at b3
                    have b3 : W9.cell? ⟨wr.heap.size, 3, none⟩ = some (.string ⟨#[]⟩) := b3
                    have HVD := Lib.hid hVD
                    clear hVD hdr hdt
                    go_wp2
                    refine wp_region_eq_lit (vs := [(.int .i64 ((i2 : Int) + 1)), (.bool true), (.bool true), (.pointer (some ⟨wo.heap.size, 1, none⟩)), (.slice (some ad2) c.vers.length cu), (.int .i64 ((i2 : Int) + 1)), (.int .i64 i2), (.pointer (some (ad2.add (i2 * 4)))), (.pointer (some (ad2.add (i2 * 4)))), (stV yp.at_), (.pointer (some ⟨wr.heap.size, 0, none⟩)), (stV y.at_), (.bool true), (.bool false), (.bool false), (.bool false), (.pointer (some ⟨wr.heap.size, 2, none⟩)), (.bool true), (.bool true), (.pointer (some ⟨wr.heap.size, 3, none⟩)), (.string ⟨#[]⟩), (.bool false), (.bool false), (.bool false)]) (by kernel_rfl) (by kernel_rfl) rfl rfl ?_ ?_
                    · refine ⟨?_, ?_, ?_, ?_, ?_, ?_, ?_, ?_, ?_, ?_, ?_, ?_, ?_, ?_, ?_, ?_, ?_, ?_, ?_, ?_, ?_, ?_, ?_, ?_, trivial⟩
                      · intro ac wc hs hd hz hf hw K hK
                        have e0 : ac.eval (.tmp 5) = (.int .i64 ((i2 : Int) + 1)) := hf 5 rfl
                        clear hd hz hf hw
                        simp only [Region.wanted, if_true, Oper.wp, execOp, resolve, List.map_toArray, List.map_cons, List.map_nil, Option.map_some, Option.map_none, e0]
                        go_simp
                        exact hK _ _ rfl (Same.refl _ _)
                      · intro ac wc hs hd hz hf hw K hK
                        have e0 : ac.eval (.tmp 68) = (.int .i64 ((i2 : Int) + 1)) := hw 0 rfl
                        clear hd hz hf hw
                        simp only [Region.wanted, if_true, Oper.wp, execOp, resolve, List.map_toArray, List.map_cons, List.map_nil, Option.map_some, Option.map_none, e0]
                        go_simp
                        exact hK _ _ rfl (Same.refl _ _)
                      · intro ac wc hs hd hz hf hw K hK
                        have e0 : ac.eval (.tmp 69) = (.bool true) := hw 1 rfl
                        clear hd hz hf hw
                        simp only [Region.wanted, if_true, Oper.wp, execOp, resolve, List.map_toArray, List.map_cons, List.map_nil, Option.map_some, Option.map_none, e0]
                        go_simp
                        exact hK _ _ rfl (Same.refl _ _)
                      · intro ac wc hs hd hz hf hw K hK
                        have eg : ac.eval (.tmp 70) = .bool true := hw 2 rfl
                        refine run_wanted (j := 2) (d := 70) (b := true) rfl rfl hz (of_decide_eq_true rfl) eg ?_
                        clear eg
                        have e0 : ac.eval (.tmp 4) = (.pointer (some ⟨wo.heap.size, 0, none⟩)) := hf 4 rfl
                        clear hd hz hf hw
                        simp only [Oper.wp, execOp, resolve, List.map_toArray, List.map_cons, List.map_nil, Option.map_some, Option.map_none, e0]
                        go_simp
                        exact hK _ _ rfl (Same.refl _ _)
                      · intro ac wc hs hd hz hf hw K hK
                        have eg : ac.eval (.tmp 70) = .bool true := hw 2 rfl
                        refine run_wanted (j := 2) (d := 70) (b := true) rfl rfl hz (of_decide_eq_true rfl) eg ?_
                        clear eg
                        have e0 : ac.eval (.tmp 71) = (.pointer (some ⟨wo.heap.size, 1, none⟩)) := hw 3 rfl
                        have m0 : wc.cell? ⟨wo.heap.size, 1, none⟩ = some (.slice (some ad2) c.vers.length cu) := hs.cell (p := ⟨wo.heap.size, 1, none⟩) trivial a1
                        clear hd hz hf hw
                        simp only [Oper.wp, execOp, resolve, List.map_toArray, List.map_cons, List.map_nil, Option.map_some, Option.map_none, e0]
                        go_simp
                        exact hK _ _ rfl (Same.refl _ _)
                      · intro ac wc hs hd hz hf hw K hK
                        have eg : ac.eval (.tmp 70) = .bool true := hw 2 rfl
                        refine run_wanted (j := 2) (d := 70) (b := true) rfl rfl hz (of_decide_eq_true rfl) eg ?_
                        clear eg
                        have e0 : ac.eval (.tmp 5) = (.int .i64 ((i2 : Int) + 1)) := hf 5 rfl
                        clear hd hz hf hw
                        simp only [Oper.wp, execOp, resolve, List.map_toArray, List.map_cons, List.map_nil, Option.map_some, Option.map_none, e0]
                        go_simp
                        exact hK _ _ rfl (Same.refl _ _)
                      · intro ac wc hs hd hz hf hw K hK
                        have eg : ac.eval (.tmp 70) = .bool true := hw 2 rfl
                        refine run_wanted (j := 2) (d := 70) (b := true) rfl rfl hz (of_decide_eq_true rfl) eg ?_
                        clear eg
                        have e0 : ac.eval (.tmp 73) = (.int .i64 ((i2 : Int) + 1)) := hw 5 rfl
                        clear hd hz hf hw
                        simp only [Oper.wp, execOp, resolve, List.map_toArray, List.map_cons, List.map_nil, Option.map_some, Option.map_none, e0]
                        go_simp
                        exact hK _ _ rfl (Same.refl _ _)
                      · intro ac wc hs hd hz hf hw K hK
                        have eg : ac.eval (.tmp 70) = .bool true := hw 2 rfl
                        refine run_wanted (j := 2) (d := 70) (b := true) rfl rfl hz (of_decide_eq_true rfl) eg ?_
                        clear eg
                        have e0 : ac.eval (.tmp 72) = (.slice (some ad2) c.vers.length cu) := hw 4 rfl
                        have e1 : ac.eval (.tmp 74) = (.int .i64 i2) := hw 6 rfl
                        clear hd hz hf hw
                        simp only [Oper.wp, execOp, resolve, List.map_toArray, List.map_cons, List.map_nil, Option.map_some, Option.map_none, e0, e1]
                        go_simp
                        exact hK _ _ rfl (Same.refl _ _)
                      · intro ac wc hs hd hz hf hw K hK
                        have eg : ac.eval (.tmp 70) = .bool true := hw 2 rfl
                        refine run_wanted (j := 2) (d := 70) (b := true) rfl rfl hz (of_decide_eq_true rfl) eg ?_
                        clear eg
                        have e0 : ac.eval (.tmp 75) = (.pointer (some (ad2.add (i2 * 4)))) := hw 7 rfl
                        clear hd hz hf hw
                        simp only [Oper.wp, execOp, resolve, List.map_toArray, List.map_cons, List.map_nil, Option.map_some, Option.map_none, e0]
                        go_simp
                        exact hK _ _ rfl (Same.refl _ _)
                      · intro ac wc hs hd hz hf hw K hK
                        have eg : ac.eval (.tmp 70) = .bool true := hw 2 rfl
                        refine run_wanted (j := 2) (d := 70) (b := true) rfl rfl hz (of_decide_eq_true rfl) eg ?_
                        clear eg
                        have e0 : ac.eval (.tmp 76) = (.pointer (some (ad2.add (i2 * 4)))) := hw 8 rfl
                        have m0 : wc.cell? (ad2.add (i2 * 4)) = some (.int .i64 yp.at_.wall) := hs.cell (p := (ad2.add (i2 * 4))) trivial p0
                        have m1 : wc.cell? ⟨(ad2.add (i2 * 4)).block, (ad2.add (i2 * 4)).off + 1, none⟩ = some (.int .i64 yp.at_.tie) := hs.cell (p := ⟨(ad2.add (i2 * 4)).block, (ad2.add (i2 * 4)).off + 1, none⟩) trivial p1
                        clear hd hz hf hw
                        simp only [Oper.wp, execOp, resolve, List.map_toArray, List.map_cons, List.map_nil, Option.map_some, Option.map_none, e0]
                        go_simp
                        exact hK _ _ rfl (Same.refl _ _)
                      · intro ac wc hs hd hz hf hw K hK
                        have eg : ac.eval (.tmp 70) = .bool true := hw 2 rfl
                        refine run_wanted (j := 2) (d := 70) (b := true) rfl rfl hz (of_decide_eq_true rfl) eg ?_
                        clear eg
                        have e0 : ac.eval (.tmp 6) = (.pointer (some ⟨wr.heap.size, 0, none⟩)) := hf 6 rfl
                        clear hd hz hf hw
                        simp only [Oper.wp, execOp, resolve, List.map_toArray, List.map_cons, List.map_nil, Option.map_some, Option.map_none, e0]
                        go_simp
                        exact hK _ _ rfl (Same.refl _ _)
                      · intro ac wc hs hd hz hf hw K hK
                        have eg : ac.eval (.tmp 70) = .bool true := hw 2 rfl
                        refine run_wanted (j := 2) (d := 70) (b := true) rfl rfl hz (of_decide_eq_true rfl) eg ?_
                        clear eg
                        have e0 : ac.eval (.tmp 78) = (.pointer (some ⟨wr.heap.size, 0, none⟩)) := hw 10 rfl
                        have m0 : wc.cell? ⟨wr.heap.size, 0, none⟩ = some (.int .i64 y.at_.wall) := hs.cell (p := ⟨wr.heap.size, 0, none⟩) trivial b0
                        have m1 : wc.cell? ⟨wr.heap.size, 1, none⟩ = some (.int .i64 y.at_.tie) := hs.cell (p := ⟨wr.heap.size, 1, none⟩) trivial b1
                        clear hd hz hf hw
                        simp only [Oper.wp, execOp, resolve, List.map_toArray, List.map_cons, List.map_nil, Option.map_some, Option.map_none, e0]
                        go_simp
                        exact hK _ _ rfl (Same.refl _ _)
                      · intro ac wc hs hd hz hf hw K hK
                        have eg : ac.eval (.tmp 70) = .bool true := hw 2 rfl
                        refine run_wanted (j := 2) (d := 70) (b := true) rfl rfl hz (of_decide_eq_true rfl) eg ?_
                        clear eg
                        have e0 : ac.eval (.tmp 77) = (stV yp.at_) := hw 9 rfl
                        have e1 : ac.eval (.tmp 79) = (stV y.at_) := hw 11 rfl
                        clear hd hz hf hw
                        simp only [Oper.wp, execOp, resolve, List.map_toArray, List.map_cons, List.map_nil, Option.map_some, Option.map_none, e0, e1]
                        go_simp
                        refine (gl _).mono ?_
                        rintro e wd ⟨rfl, hs2⟩
                        exact hK _ _ rfl hs2
                      · intro ac wc hs hd hz hf hw K hK
                        have eg : ac.eval (.tmp 70) = .bool true := hw 2 rfl
                        refine run_wanted (j := 2) (d := 70) (b := true) rfl rfl hz (of_decide_eq_true rfl) eg ?_
                        clear eg
                        have e0 : ac.eval (.tmp 80) = (.bool true) := hw 12 rfl
                        clear hd hz hf hw
                        simp only [Oper.wp, execOp, resolve, List.map_toArray, List.map_cons, List.map_nil, Option.map_some, Option.map_none, e0]
                        go_simp
                        exact hK _ _ rfl (Same.refl _ _)
                      · intro ac wc hs hd hz hf hw K hK
                        have e0 : ac.eval (.tmp 70) = (.bool true) := hw 2 rfl
                        have e1 : ac.eval (.tmp 81) = (.bool false) := hw 13 rfl
                        clear hd hz hf hw
                        simp only [Region.wanted, if_true, Oper.wp, execOp, resolve, List.map_toArray, List.map_cons, List.map_nil, Option.map_some, Option.map_none, e0, e1]
                        go_simp
                        exact hK _ _ rfl (Same.refl _ _)
                      · intro ac wc hs hd hz hf hw K hK
                        have e0 : ac.eval (.tmp 82) = (.bool false) := hw 14 rfl
                        clear hd hz hf hw
                        simp only [Region.wanted, if_true, Oper.wp, execOp, resolve, List.map_toArray, List.map_cons, List.map_nil, Option.map_some, Option.map_none, e0]
                        go_simp
                        exact hK _ _ rfl (Same.refl _ _)
                      · intro ac wc hs hd hz hf hw K hK
                        have eg : ac.eval (.tmp 83) = .bool false := hw 15 rfl
                        refine run_wanted (j := 15) (d := 83) (b := false) rfl rfl hz (of_decide_eq_true rfl) eg ?_
                        clear eg
                        have e0 : ac.eval (.tmp 6) = (.pointer (some ⟨wr.heap.size, 0, none⟩)) := hf 6 rfl
                        clear hd hz hf hw
                        simp only [Oper.wp, execOp, resolve, List.map_toArray, List.map_cons, List.map_nil, Option.map_some, Option.map_none, e0]
                        go_simp
                        exact hK _ _ rfl (Same.refl _ _)
                      · intro ac wc hs hd hz hf hw K hK
                        have eg : ac.eval (.tmp 83) = .bool false := hw 15 rfl
                        refine run_wanted (j := 15) (d := 83) (b := false) rfl rfl hz (of_decide_eq_true rfl) eg ?_
                        clear eg
                        have e0 : ac.eval (.tmp 84) = (.pointer (some ⟨wr.heap.size, 2, none⟩)) := hw 16 rfl
                        have m0 : wc.cell? ⟨wr.heap.size, 2, none⟩ = some (.bool true) := hs.cell (p := ⟨wr.heap.size, 2, none⟩) trivial b2
                        clear hd hz hf hw
                        simp only [Oper.wp, execOp, resolve, List.map_toArray, List.map_cons, List.map_nil, Option.map_some, Option.map_none, e0]
                        go_simp
                        exact hK _ _ rfl (Same.refl _ _)
                      · intro ac wc hs hd hz hf hw K hK
                        have eg : ac.eval (.tmp 83) = .bool false := hw 15 rfl
                        refine run_wanted (j := 15) (d := 83) (b := false) rfl rfl hz (of_decide_eq_true rfl) eg ?_
                        clear eg
                        have e0 : ac.eval (.tmp 85) = (.bool true) := hw 17 rfl
                        clear hd hz hf hw
                        simp only [Oper.wp, execOp, resolve, List.map_toArray, List.map_cons, List.map_nil, Option.map_some, Option.map_none, e0]
                        go_simp
                        exact hK _ _ rfl (Same.refl _ _)
                      · intro ac wc hs hd hz hf hw K hK
                        have eg : ac.eval (.tmp 86) = .bool true := hw 18 rfl
                        refine run_wanted (j := 18) (d := 86) (b := true) rfl rfl hz (of_decide_eq_true rfl) eg ?_
                        clear eg
                        have e0 : ac.eval (.tmp 6) = (.pointer (some ⟨wr.heap.size, 0, none⟩)) := hf 6 rfl
                        clear hd hz hf hw
                        simp only [Oper.wp, execOp, resolve, List.map_toArray, List.map_cons, List.map_nil, Option.map_some, Option.map_none, e0]
                        go_simp
                        exact hK _ _ rfl (Same.refl _ _)
                      · intro ac wc hs hd hz hf hw K hK
                        have eg : ac.eval (.tmp 86) = .bool true := hw 18 rfl
                        refine run_wanted (j := 18) (d := 86) (b := true) rfl rfl hz (of_decide_eq_true rfl) eg ?_
                        clear eg
                        have e0 : ac.eval (.tmp 87) = (.pointer (some ⟨wr.heap.size, 3, none⟩)) := hw 19 rfl
                        have m0 : wc.cell? ⟨wr.heap.size, 3, none⟩ = some (.string ⟨#[]⟩) := hs.cell (p := ⟨wr.heap.size, 3, none⟩) trivial b3
                        clear hd hz hf hw
                        simp only [Oper.wp, execOp, resolve, List.map_toArray, List.map_cons, List.map_nil, Option.map_some, Option.map_none, e0]
                        go_simp
                        exact hK _ _ rfl (Same.refl _ _)
                      · intro ac wc hs hd hz hf hw K hK
                        have eg : ac.eval (.tmp 86) = .bool true := hw 18 rfl
                        refine run_wanted (j := 18) (d := 86) (b := true) rfl rfl hz (of_decide_eq_true rfl) eg ?_
                        clear eg
                        have e0 : ac.eval (.tmp 88) = (.string ⟨#[]⟩) := hw 20 rfl
                        clear hd hz hf hw
                        simp only [Oper.wp, execOp, resolve, List.map_toArray, List.map_cons, List.map_nil, Option.map_some, Option.map_none, e0]
                        go_simp
                        exact hK _ _ rfl (Same.refl _ _)
                      · intro ac wc hs hd hz hf hw K hK
                        have eg : ac.eval (.tmp 83) = .bool false := hw 15 rfl
                        refine run_wanted (j := 15) (d := 83) (b := false) rfl rfl hz (of_decide_eq_true rfl) eg ?_
                        clear eg
                        have e0 : ac.eval (.tmp 86) = (.bool true) := hw 18 rfl
                        have e1 : ac.eval (.tmp 89) = (.bool false) := hw 21 rfl
                        clear hd hz hf hw
                        simp only [Oper.wp, execOp, resolve, List.map_toArray, List.map_cons, List.map_nil, Option.map_some, Option.map_none, e0, e1]
                        go_simp
                        exact hK _ _ rfl (Same.refl _ _)
                      · intro ac wc hs hd hz hf hw K hK
                        have e0 : ac.eval (.tmp 83) = (.bool false) := hw 15 rfl
                        have e1 : ac.eval (.tmp 90) = (.bool false) := hw 22 rfl
                        clear hd hz hf hw
                        simp only [Region.wanted, if_true, Oper.wp, execOp, resolve, List.map_toArray, List.map_cons, List.map_nil, Option.map_some, Option.map_none, e0, e1]
                        go_simp
                        exact hK _ _ rfl (Same.refl _ _)
                    · intro wR hsR
                      simp only [putAll, Act.put, List.setIfInBounds_toArray, List.set_cons_succ, List.set_cons_zero]
                      go_wp2
                      go_roundw
                      case rel => exact ⟨i2 + 1 + 1, by go_num, by omega, (Hvn.out HVD.out (HLS.out)).1, (Hvn.out HVD.out (HLS.out)).2, (HSi.out.trans HS9.out).trans hsR⟩
                      case measure => simp [intOf]; omega
                  · have hVD : ¬ (y.drop = true → y.data = []) := fun h => hdt (h hdr)
                    have qd : ¬ (str y.data).toList = [] := by rw [ByteArray.toList_eq]; exact hdt
                    have qd2 : ((str y.data).toList == []) = false := by simpa using qd
                    have HVD := Lib.hid hVD
                    clear hVD hdr hdt
                    go_wp2
                    refine wp_region_eq_lit (vs := [(.int .i64 ((i2 : Int) + 1)), (.bool true), (.bool true), (.pointer (some ⟨wo.heap.size, 1, none⟩)), (.slice (some ad2) c.vers.length cu), (.int .i64 ((i2 : Int) + 1)), (.int .i64 i2), (.pointer (some (ad2.add (i2 * 4)))), (.pointer (some (ad2.add (i2 * 4)))), (stV yp.at_), (.pointer (some ⟨wr.heap.size, 0, none⟩)), (stV y.at_), (.bool true), (.bool false), (.bool false), (.bool false), (.pointer (some ⟨wr.heap.size, 2, none⟩)), (.bool true), (.bool true), (.pointer (some ⟨wr.heap.size, 3, none⟩)), (.string (str y.data)), (.bool true), (.bool true), (.bool true)]) (by kernel_rfl) (by kernel_rfl) rfl rfl ?_ ?_
                    · refine ⟨?_, ?_, ?_, ?_, ?_, ?_, ?_, ?_, ?_, ?_, ?_, ?_, ?_, ?_, ?_, ?_, ?_, ?_, ?_, ?_, ?_, ?_, ?_, ?_, trivial⟩
                      · intro ac wc hs hd hz hf hw K hK
                        have e0 : ac.eval (.tmp 5) = (.int .i64 ((i2 : Int) + 1)) := hf 5 rfl
                        clear hd hz hf hw
                        simp only [Region.wanted, if_true, Oper.wp, execOp, resolve, List.map_toArray, List.map_cons, List.map_nil, Option.map_some, Option.map_none, e0]
                        go_simp
                        exact hK _ _ rfl (Same.refl _ _)
                      · intro ac wc hs hd hz hf hw K hK
                        have e0 : ac.eval (.tmp 68) = (.int .i64 ((i2 : Int) + 1)) := hw 0 rfl
                        clear hd hz hf hw
                        simp only [Region.wanted, if_true, Oper.wp, execOp, resolve, List.map_toArray, List.map_cons, List.map_nil, Option.map_some, Option.map_none, e0]
                        go_simp
                        exact hK _ _ rfl (Same.refl _ _)
                      · intro ac wc hs hd hz hf hw K hK
                        have e0 : ac.eval (.tmp 69) = (.bool true) := hw 1 rfl
                        clear hd hz hf hw
                        simp only [Region.wanted, if_true, Oper.wp, execOp, resolve, List.map_toArray, List.map_cons, List.map_nil, Option.map_some, Option.map_none, e0]
                        go_simp
                        exact hK _ _ rfl (Same.refl _ _)
                      · intro ac wc hs hd hz hf hw K hK
                        have eg : ac.eval (.tmp 70) = .bool true := hw 2 rfl
                        refine run_wanted (j := 2) (d := 70) (b := true) rfl rfl hz (of_decide_eq_true rfl) eg ?_
                        clear eg
                        have e0 : ac.eval (.tmp 4) = (.pointer (some ⟨wo.heap.size, 0, none⟩)) := hf 4 rfl
                        clear hd hz hf hw
                        simp only [Oper.wp, execOp, resolve, List.map_toArray, List.map_cons, List.map_nil, Option.map_some, Option.map_none, e0]
                        go_simp
                        exact hK _ _ rfl (Same.refl _ _)
                      · intro ac wc hs hd hz hf hw K hK
                        have eg : ac.eval (.tmp 70) = .bool true := hw 2 rfl
                        refine run_wanted (j := 2) (d := 70) (b := true) rfl rfl hz (of_decide_eq_true rfl) eg ?_
                        clear eg
                        have e0 : ac.eval (.tmp 71) = (.pointer (some ⟨wo.heap.size, 1, none⟩)) := hw 3 rfl
                        have m0 : wc.cell? ⟨wo.heap.size, 1, none⟩ = some (.slice (some ad2) c.vers.length cu) := hs.cell (p := ⟨wo.heap.size, 1, none⟩) trivial a1
                        clear hd hz hf hw
                        simp only [Oper.wp, execOp, resolve, List.map_toArray, List.map_cons, List.map_nil, Option.map_some, Option.map_none, e0]
                        go_simp
                        exact hK _ _ rfl (Same.refl _ _)
                      · intro ac wc hs hd hz hf hw K hK
                        have eg : ac.eval (.tmp 70) = .bool true := hw 2 rfl
                        refine run_wanted (j := 2) (d := 70) (b := true) rfl rfl hz (of_decide_eq_true rfl) eg ?_
                        clear eg
                        have e0 : ac.eval (.tmp 5) = (.int .i64 ((i2 : Int) + 1)) := hf 5 rfl
                        clear hd hz hf hw
                        simp only [Oper.wp, execOp, resolve, List.map_toArray, List.map_cons, List.map_nil, Option.map_some, Option.map_none, e0]
                        go_simp
                        exact hK _ _ rfl (Same.refl _ _)
                      · intro ac wc hs hd hz hf hw K hK
                        have eg : ac.eval (.tmp 70) = .bool true := hw 2 rfl
                        refine run_wanted (j := 2) (d := 70) (b := true) rfl rfl hz (of_decide_eq_true rfl) eg ?_
                        clear eg
                        have e0 : ac.eval (.tmp 73) = (.int .i64 ((i2 : Int) + 1)) := hw 5 rfl
                        clear hd hz hf hw
                        simp only [Oper.wp, execOp, resolve, List.map_toArray, List.map_cons, List.map_nil, Option.map_some, Option.map_none, e0]
                        go_simp
                        exact hK _ _ rfl (Same.refl _ _)
                      · intro ac wc hs hd hz hf hw K hK
                        have eg : ac.eval (.tmp 70) = .bool true := hw 2 rfl
                        refine run_wanted (j := 2) (d := 70) (b := true) rfl rfl hz (of_decide_eq_true rfl) eg ?_
                        clear eg
                        have e0 : ac.eval (.tmp 72) = (.slice (some ad2) c.vers.length cu) := hw 4 rfl
                        have e1 : ac.eval (.tmp 74) = (.int .i64 i2) := hw 6 rfl
                        clear hd hz hf hw
                        simp only [Oper.wp, execOp, resolve, List.map_toArray, List.map_cons, List.map_nil, Option.map_some, Option.map_none, e0, e1]
                        go_simp
                        exact hK _ _ rfl (Same.refl _ _)
                      · intro ac wc hs hd hz hf hw K hK
                        have eg : ac.eval (.tmp 70) = .bool true := hw 2 rfl
                        refine run_wanted (j := 2) (d := 70) (b := true) rfl rfl hz (of_decide_eq_true rfl) eg ?_
                        clear eg
                        have e0 : ac.eval (.tmp 75) = (.pointer (some (ad2.add (i2 * 4)))) := hw 7 rfl
                        clear hd hz hf hw
                        simp only [Oper.wp, execOp, resolve, List.map_toArray, List.map_cons, List.map_nil, Option.map_some, Option.map_none, e0]
                        go_simp
                        exact hK _ _ rfl (Same.refl _ _)
                      · intro ac wc hs hd hz hf hw K hK
                        have eg : ac.eval (.tmp 70) = .bool true := hw 2 rfl
                        refine run_wanted (j := 2) (d := 70) (b := true) rfl rfl hz (of_decide_eq_true rfl) eg ?_
                        clear eg
                        have e0 : ac.eval (.tmp 76) = (.pointer (some (ad2.add (i2 * 4)))) := hw 8 rfl
                        have m0 : wc.cell? (ad2.add (i2 * 4)) = some (.int .i64 yp.at_.wall) := hs.cell (p := (ad2.add (i2 * 4))) trivial p0
                        have m1 : wc.cell? ⟨(ad2.add (i2 * 4)).block, (ad2.add (i2 * 4)).off + 1, none⟩ = some (.int .i64 yp.at_.tie) := hs.cell (p := ⟨(ad2.add (i2 * 4)).block, (ad2.add (i2 * 4)).off + 1, none⟩) trivial p1
                        clear hd hz hf hw
                        simp only [Oper.wp, execOp, resolve, List.map_toArray, List.map_cons, List.map_nil, Option.map_some, Option.map_none, e0]
                        go_simp
                        exact hK _ _ rfl (Same.refl _ _)
                      · intro ac wc hs hd hz hf hw K hK
                        have eg : ac.eval (.tmp 70) = .bool true := hw 2 rfl
                        refine run_wanted (j := 2) (d := 70) (b := true) rfl rfl hz (of_decide_eq_true rfl) eg ?_
                        clear eg
                        have e0 : ac.eval (.tmp 6) = (.pointer (some ⟨wr.heap.size, 0, none⟩)) := hf 6 rfl
                        clear hd hz hf hw
                        simp only [Oper.wp, execOp, resolve, List.map_toArray, List.map_cons, List.map_nil, Option.map_some, Option.map_none, e0]
                        go_simp
                        exact hK _ _ rfl (Same.refl _ _)
                      · intro ac wc hs hd hz hf hw K hK
                        have eg : ac.eval (.tmp 70) = .bool true := hw 2 rfl
                        refine run_wanted (j := 2) (d := 70) (b := true) rfl rfl hz (of_decide_eq_true rfl) eg ?_
                        clear eg
                        have e0 : ac.eval (.tmp 78) = (.pointer (some ⟨wr.heap.size, 0, none⟩)) := hw 10 rfl
                        have m0 : wc.cell? ⟨wr.heap.size, 0, none⟩ = some (.int .i64 y.at_.wall) := hs.cell (p := ⟨wr.heap.size, 0, none⟩) trivial b0
                        have m1 : wc.cell? ⟨wr.heap.size, 1, none⟩ = some (.int .i64 y.at_.tie) := hs.cell (p := ⟨wr.heap.size, 1, none⟩) trivial b1
                        clear hd hz hf hw
                        simp only [Oper.wp, execOp, resolve, List.map_toArray, List.map_cons, List.map_nil, Option.map_some, Option.map_none, e0]
                        go_simp
                        exact hK _ _ rfl (Same.refl _ _)
                      · intro ac wc hs hd hz hf hw K hK
                        have eg : ac.eval (.tmp 70) = .bool true := hw 2 rfl
                        refine run_wanted (j := 2) (d := 70) (b := true) rfl rfl hz (of_decide_eq_true rfl) eg ?_
                        clear eg
                        have e0 : ac.eval (.tmp 77) = (stV yp.at_) := hw 9 rfl
                        have e1 : ac.eval (.tmp 79) = (stV y.at_) := hw 11 rfl
                        clear hd hz hf hw
                        simp only [Oper.wp, execOp, resolve, List.map_toArray, List.map_cons, List.map_nil, Option.map_some, Option.map_none, e0, e1]
                        go_simp
                        refine (gl _).mono ?_
                        rintro e wd ⟨rfl, hs2⟩
                        exact hK _ _ rfl hs2
                      · intro ac wc hs hd hz hf hw K hK
                        have eg : ac.eval (.tmp 70) = .bool true := hw 2 rfl
                        refine run_wanted (j := 2) (d := 70) (b := true) rfl rfl hz (of_decide_eq_true rfl) eg ?_
                        clear eg
                        have e0 : ac.eval (.tmp 80) = (.bool true) := hw 12 rfl
                        clear hd hz hf hw
                        simp only [Oper.wp, execOp, resolve, List.map_toArray, List.map_cons, List.map_nil, Option.map_some, Option.map_none, e0]
                        go_simp
                        exact hK _ _ rfl (Same.refl _ _)
                      · intro ac wc hs hd hz hf hw K hK
                        have e0 : ac.eval (.tmp 70) = (.bool true) := hw 2 rfl
                        have e1 : ac.eval (.tmp 81) = (.bool false) := hw 13 rfl
                        clear hd hz hf hw
                        simp only [Region.wanted, if_true, Oper.wp, execOp, resolve, List.map_toArray, List.map_cons, List.map_nil, Option.map_some, Option.map_none, e0, e1]
                        go_simp
                        exact hK _ _ rfl (Same.refl _ _)
                      · intro ac wc hs hd hz hf hw K hK
                        have e0 : ac.eval (.tmp 82) = (.bool false) := hw 14 rfl
                        clear hd hz hf hw
                        simp only [Region.wanted, if_true, Oper.wp, execOp, resolve, List.map_toArray, List.map_cons, List.map_nil, Option.map_some, Option.map_none, e0]
                        go_simp
                        exact hK _ _ rfl (Same.refl _ _)
                      · intro ac wc hs hd hz hf hw K hK
                        have eg : ac.eval (.tmp 83) = .bool false := hw 15 rfl
                        refine run_wanted (j := 15) (d := 83) (b := false) rfl rfl hz (of_decide_eq_true rfl) eg ?_
                        clear eg
                        have e0 : ac.eval (.tmp 6) = (.pointer (some ⟨wr.heap.size, 0, none⟩)) := hf 6 rfl
                        clear hd hz hf hw
                        simp only [Oper.wp, execOp, resolve, List.map_toArray, List.map_cons, List.map_nil, Option.map_some, Option.map_none, e0]
                        go_simp
                        exact hK _ _ rfl (Same.refl _ _)
                      · intro ac wc hs hd hz hf hw K hK
                        have eg : ac.eval (.tmp 83) = .bool false := hw 15 rfl
                        refine run_wanted (j := 15) (d := 83) (b := false) rfl rfl hz (of_decide_eq_true rfl) eg ?_
                        clear eg
                        have e0 : ac.eval (.tmp 84) = (.pointer (some ⟨wr.heap.size, 2, none⟩)) := hw 16 rfl
                        have m0 : wc.cell? ⟨wr.heap.size, 2, none⟩ = some (.bool true) := hs.cell (p := ⟨wr.heap.size, 2, none⟩) trivial b2
                        clear hd hz hf hw
                        simp only [Oper.wp, execOp, resolve, List.map_toArray, List.map_cons, List.map_nil, Option.map_some, Option.map_none, e0]
                        go_simp
                        exact hK _ _ rfl (Same.refl _ _)
                      · intro ac wc hs hd hz hf hw K hK
                        have eg : ac.eval (.tmp 83) = .bool false := hw 15 rfl
                        refine run_wanted (j := 15) (d := 83) (b := false) rfl rfl hz (of_decide_eq_true rfl) eg ?_
                        clear eg
                        have e0 : ac.eval (.tmp 85) = (.bool true) := hw 17 rfl
                        clear hd hz hf hw
                        simp only [Oper.wp, execOp, resolve, List.map_toArray, List.map_cons, List.map_nil, Option.map_some, Option.map_none, e0]
                        go_simp
                        exact hK _ _ rfl (Same.refl _ _)
                      · intro ac wc hs hd hz hf hw K hK
                        have eg : ac.eval (.tmp 86) = .bool true := hw 18 rfl
                        refine run_wanted (j := 18) (d := 86) (b := true) rfl rfl hz (of_decide_eq_true rfl) eg ?_
                        clear eg
                        have e0 : ac.eval (.tmp 6) = (.pointer (some ⟨wr.heap.size, 0, none⟩)) := hf 6 rfl
                        clear hd hz hf hw
                        simp only [Oper.wp, execOp, resolve, List.map_toArray, List.map_cons, List.map_nil, Option.map_some, Option.map_none, e0]
                        go_simp
                        exact hK _ _ rfl (Same.refl _ _)
                      · intro ac wc hs hd hz hf hw K hK
                        have eg : ac.eval (.tmp 86) = .bool true := hw 18 rfl
                        refine run_wanted (j := 18) (d := 86) (b := true) rfl rfl hz (of_decide_eq_true rfl) eg ?_
                        clear eg
                        have e0 : ac.eval (.tmp 87) = (.pointer (some ⟨wr.heap.size, 3, none⟩)) := hw 19 rfl
                        have m0 : wc.cell? ⟨wr.heap.size, 3, none⟩ = some (.string (str y.data)) := hs.cell (p := ⟨wr.heap.size, 3, none⟩) trivial b3
                        clear hd hz hf hw
                        simp only [Oper.wp, execOp, resolve, List.map_toArray, List.map_cons, List.map_nil, Option.map_some, Option.map_none, e0]
                        go_simp
                        exact hK _ _ rfl (Same.refl _ _)
                      · intro ac wc hs hd hz hf hw K hK
                        have eg : ac.eval (.tmp 86) = .bool true := hw 18 rfl
                        refine run_wanted (j := 18) (d := 86) (b := true) rfl rfl hz (of_decide_eq_true rfl) eg ?_
                        clear eg
                        have e0 : ac.eval (.tmp 88) = (.string (str y.data)) := hw 20 rfl
                        clear hd hz hf hw
                        simp only [Oper.wp, execOp, resolve, List.map_toArray, List.map_cons, List.map_nil, Option.map_some, Option.map_none, e0]
                        go_simp
                        exact hK _ _ rfl (Same.refl _ _)
                      · intro ac wc hs hd hz hf hw K hK
                        have eg : ac.eval (.tmp 83) = .bool false := hw 15 rfl
                        refine run_wanted (j := 15) (d := 83) (b := false) rfl rfl hz (of_decide_eq_true rfl) eg ?_
                        clear eg
                        have e0 : ac.eval (.tmp 86) = (.bool true) := hw 18 rfl
                        have e1 : ac.eval (.tmp 89) = (.bool true) := hw 21 rfl
                        clear hd hz hf hw
                        simp only [Oper.wp, execOp, resolve, List.map_toArray, List.map_cons, List.map_nil, Option.map_some, Option.map_none, e0, e1]
                        go_simp
                        exact hK _ _ rfl (Same.refl _ _)
                      · intro ac wc hs hd hz hf hw K hK
                        have e0 : ac.eval (.tmp 83) = (.bool false) := hw 15 rfl
                        have e1 : ac.eval (.tmp 90) = (.bool true) := hw 22 rfl
                        clear hd hz hf hw
                        simp only [Region.wanted, if_true, Oper.wp, execOp, resolve, List.map_toArray, List.map_cons, List.map_nil, Option.map_some, Option.map_none, e0, e1]
                        go_simp
                        exact hK _ _ rfl (Same.refl _ _)
                    · intro wR hsR
                      simp only [putAll, Act.put, List.setIfInBounds_toArray, List.set_cons_succ, List.set_cons_zero]
                      go_wp2
                      go_ret
                      exact MayP.no (Hng.out fun g => HVD.out (g.vers _ HyM.out)) ((HS.out.trans ((HS8.out.trans HSi.out).trans HS9.out)).trans hsR)
          · obtain rfl : j = c.vers.length := by omega
            have hnx := Hnx.out ⟨by have := Hso.out; rwa [List.take_length] at this, by have := Hcl.out; rwa [List.take_length] at this, HF1.out, HF2.out, HF3.out⟩
            have HN := Lib.hid hnx
            clear hnx
            go_wp2
            go_roundw
            case rel => exact ⟨k + 1, by go_num, by omega, HN.out, (HS.out.trans HS8.out).trans HSi.out⟩
            case measure => simp [intOf]; omega
    · obtain rfl : k = cs.length := by omega
      have hg : Good cs := by have := HG.out; rwa [List.take_length] at this
      have HG2 := Lib.hid hg
      clear hS hg
      go_wp2
      go_ret
      exact MayP.yes HG2.out HS.out
theorem mvmay_any (v : Value) (cs : List Cel) (S : Nat → Prop) (w : World) (hv : CelR w S v cs) (hg : Good cs) (hn : cs.length ≤ 100000) (hn2 : ∀ c ∈ cs, c.vers.length ≤ 1000000) :
    Calls Try.prog 31 #[v] w fun e w' => e = .returned (.bool true) ∧ Same (fun _ => True) w w' := by
  refine (mvmay_all v cs S w hv hn hn2).mono ?_
  rintro e w' ⟨b, rfl, hb, hs⟩
  exact ⟨by rw [hb.2 hg], hs⟩
end Go.Proofs.Ytoldelocfmpccaa
