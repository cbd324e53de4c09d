/-
  One of the longer walks of mvcc (written by bundle.py out of: MvA1). No condition.
-/
import Derived.Test.YtoldelocfmpccaaQ13
set_option linter.unusedSimpArgs false
set_option linter.unusedVariables false
namespace Go.Proofs.Ytoldelocfmpccaa
open Go.RowKit

set_option maxHeartbeats 4000000 in
theorem same_any (v v' : Value) (cs : List Cel) (S S' : Nat → Prop) (w : World) (hv : CelR w S v cs) (hv' : CelR w S' v' cs) (hn : cs.length ≤ 100000) (hn2 : ∀ c ∈ cs, c.vers.length ≤ 1000000) :
    Calls Try.prog 29 #[v, v'] w fun e w' => e = .returned (.bool true) ∧ Same (fun _ => True) w w' := by
  obtain ⟨A, cp, rfl, hc, hm⟩ := hv.form
  obtain ⟨A', cp', rfl, hc', hm'⟩ := hv'.form
  have Hv := Lib.hid hv
  have Hv' := Lib.hid hv'
  have Hn2 := Lib.hid hn2
  unfold maxLen at hm hm'
  clear hv hv' hn2
  go_enter Try.func29, Try.ntmps29
  go_wp2
  go_loopw [5, 6, 7, 8] (fun i _ _ _ wr => ∃ k : Nat, i = .int .i64 k ∧ k ≤ cs.length ∧ Same (fun _ => True) w wr) (fun i _ _ _ _ => cs.length - (intOf i).toNat)
  case atStart => exact ⟨0, rfl, Nat.zero_le _, Same.refl _ _⟩
  case round =>
    obtain ⟨k, rfl, hk, hS⟩ := hrel
    obtain ⟨wo, rfl⟩ : ∃ wo : World, wo = wr := ⟨_, rfl⟩
    have HS := Lib.hid hS
    by_cases hlt : k < cs.length
    · obtain ⟨ad, u, rfl, -, hvr, c0, c1, c2, c3, c4, c5, c6, c7, c8, c9, c10, c11⟩ := CelR.cells12 (Hv.out.keepAll hS) hlt
      obtain ⟨ad', u', rfl, -, hvr', d0, d1, d2, d3, d4, d5, d6, d7, d8, d9, d10, d11⟩ := CelR.cells12 (Hv'.out.keepAll hS) hlt
      obtain ⟨Au, cu, rfl, hq1, hq2⟩ := hvr.form
      obtain ⟨Au', cu', rfl, hq1', hq2'⟩ := hvr'.form
      unfold maxLen at hq2 hq2'
      have x1 : (0 : Int) ≤ (k : Int) := by omega
      have x2 : (k : Int) < (cs.length : Int) := by omega
      have hab := World.block_lt_of_cell? wo _ c0
      have hab' := World.block_lt_of_cell? wo _ d0
      have hcl := Hn2.out cs[k] (List.getElem_mem hlt)
      generalize cs[k] = c at *
      have Hvr := Lib.hid hvr
      have Hvr' := Lib.hid hvr'
      clear hvr hvr' hS
      go_wp2
      go_region
      · have rp := ((Row.new wo 64 (celCs (.slice Au c.vers.length cu, c))).keep ((Same.refl (fun _ => True) _).alloc (.cells (celCs (.slice Au' c.vers.length cu', c)).toArray 64)) trivial).keep ((Same.refl (fun _ => True) _).drew) trivial
        have rq := (Row.new (wo.alloc (.cells (celCs (.slice Au c.vers.length cu, c)).toArray 64)) 64 (celCs (.slice Au' c.vers.length cu', c))).keep ((Same.refl (fun _ => True) _).drew) trivial
        rw [World.size_alloc] at rq
        have hS7 := (((Same.refl (fun _ => True) wo).alloc (.cells (celCs (.slice Au c.vers.length cu, c)).toArray 64)).alloc (.cells (celCs (.slice Au' c.vers.length cu', c)).toArray 64)).drew
        simp only [celCs, lckCs, List.cons_append, List.nil_append] at rp rq hS7
        clear c0 c1 c2 c3 c4 c5 c6 c7 c8 c9 c10 c11 d0 d1 d2 d3 d4 d5 d6 d7 d8 d9 d10 d11
        revert hS7 rp rq
        generalize ((wo.alloc _).alloc _).drew = W7
        intro rp rq hS7
        have z0 := rp.lt
        have z1 := rq.lt
        obtain ⟨a0, a1, a2, a3, a4, a5, a6, a7, a8, a9, a10, a11, -⟩ := cel_cells rp
        obtain ⟨b0, b1, b2, b3, b4, b5, b6, b7, b8, b9, b10, b11, -⟩ := cel_cells rq
        have RP := Lib.hid rp
        have RQ := Lib.hid rq
        have HS7 := Lib.hid hS7
        clear rp rq hS7
        go_wp2
        clear a0 a1 a2 a3 a4 a5 a6 a7 a8 a9 a10 a11 b0 b1 b2 b3 b4 b5 b6 b7 b8 b9 b10 b11
        go_loopw [8] (fun i wi => ∃ j : Nat, i = .int .i64 j ∧ j ≤ c.vers.length ∧ Same (fun _ => True) W7 wi) (fun i _ => c.vers.length - (intOf i).toNat)
        case atStart => exact ⟨0, rfl, Nat.zero_le _, Same.refl _ _⟩
        case round =>
          obtain ⟨j, rfl, hj, hSi⟩ := hrel
          have a1 : wr.cell? ⟨wo.heap.size, 1, none⟩ = some (.slice Au c.vers.length cu) := (RP.out.keep hSi trivial).cell 1
          have b1 : wr.cell? ⟨(wo.heap.size + 1), 1, none⟩ = some (.slice Au' c.vers.length cu') := (RQ.out.keep hSi trivial).cell 1
          have HSi := Lib.hid hSi
          by_cases hjl : j < c.vers.length
          · obtain ⟨ad2, rfl, -, d0, d1, d2, d3⟩ := VerR.cells (RowR.keepAll Hvr.out (HS7.out.trans hSi)) hjl
            obtain ⟨ad3, rfl, -, e0, e1, e2, e3⟩ := VerR.cells (RowR.keepAll Hvr'.out (HS7.out.trans hSi)) hjl
            have x3 : (0 : Int) ≤ (j : Int) := by omega
            have x4 : (j : Int) < (c.vers.length : Int) := by omega
            generalize c.vers[j] = y at *
            clear hSi
            go_wp2
            go_quiet (fail)
            rename_i nq
            go_wp2
            go_roundw
            case rel => exact ⟨j + 1, by go_num, by omega, HSi.out.drewN nq⟩
            case measure => simp [intOf]; omega
          · obtain rfl : j = c.vers.length := by omega
            clear hSi
            go_wp2
            go_roundw
            case rel => exact ⟨k + 1, by go_num, by omega, (HS.out.trans HS7.out).trans HSi.out⟩
            case measure => simp [intOf]; omega
      · have rq := ((Row.new wo 64 (celCs (.slice Au' c.vers.length cu', c))).keep ((Same.refl (fun _ => True) _).alloc (.cells (celCs (.slice Au c.vers.length cu, c)).toArray 64)) trivial).keep ((Same.refl (fun _ => True) _).drew) trivial
        have rp := (Row.new (wo.alloc (.cells (celCs (.slice Au' c.vers.length cu', c)).toArray 64)) 64 (celCs (.slice Au c.vers.length cu, c))).keep ((Same.refl (fun _ => True) _).drew) trivial
        rw [World.size_alloc] at rp
        have hS7 := (((Same.refl (fun _ => True) wo).alloc (.cells (celCs (.slice Au' c.vers.length cu', c)).toArray 64)).alloc (.cells (celCs (.slice Au c.vers.length cu, c)).toArray 64)).drew
        simp only [celCs, lckCs, List.cons_append, List.nil_append] at rp rq hS7
        clear c0 c1 c2 c3 c4 c5 c6 c7 c8 c9 c10 c11 d0 d1 d2 d3 d4 d5 d6 d7 d8 d9 d10 d11
        revert hS7 rp rq
        generalize ((wo.alloc _).alloc _).drew = W7
        intro rq rp hS7
        have z0 := rp.lt
        have z1 := rq.lt
        obtain ⟨a0, a1, a2, a3, a4, a5, a6, a7, a8, a9, a10, a11, -⟩ := cel_cells rp
        obtain ⟨b0, b1, b2, b3, b4, b5, b6, b7, b8, b9, b10, b11, -⟩ := cel_cells rq
        have RP := Lib.hid rp
        have RQ := Lib.hid rq
        have HS7 := Lib.hid hS7
        clear rp rq hS7
        go_wp2
        clear a0 a1 a2 a3 a4 a5 a6 a7 a8 a9 a10 a11 b0 b1 b2 b3 b4 b5 b6 b7 b8 b9 b10 b11
        go_loopw [8] (fun i wi => ∃ j : Nat, i = .int .i64 j ∧ j ≤ c.vers.length ∧ Same (fun _ => True) W7 wi) (fun i _ => c.vers.length - (intOf i).toNat)
        case atStart => exact ⟨0, rfl, Nat.zero_le _, Same.refl _ _⟩
        case round =>
          obtain ⟨j, rfl, hj, hSi⟩ := hrel
          have a1 : wr.cell? ⟨(wo.heap.size + 1), 1, none⟩ = some (.slice Au c.vers.length cu) := (RP.out.keep hSi trivial).cell 1
          have b1 : wr.cell? ⟨wo.heap.size, 1, none⟩ = some (.slice Au' c.vers.length cu') := (RQ.out.keep hSi trivial).cell 1
          have HSi := Lib.hid hSi
          by_cases hjl : j < c.vers.length
          · obtain ⟨ad2, rfl, -, d0, d1, d2, d3⟩ := VerR.cells (RowR.keepAll Hvr.out (HS7.out.trans hSi)) hjl
            obtain ⟨ad3, rfl, -, e0, e1, e2, e3⟩ := VerR.cells (RowR.keepAll Hvr'.out (HS7.out.trans hSi)) hjl
            have x3 : (0 : Int) ≤ (j : Int) := by omega
            have x4 : (j : Int) < (c.vers.length : Int) := by omega
            generalize c.vers[j] = y at *
            clear hSi
            go_wp2
            go_quiet (fail)
            rename_i nq
            go_wp2
            go_roundw
            case rel => exact ⟨j + 1, by go_num, by omega, HSi.out.drewN nq⟩
            case measure => simp [intOf]; omega
          · obtain rfl : j = c.vers.length := by omega
            clear hSi
            go_wp2
            go_roundw
            case rel => exact ⟨k + 1, by go_num, by omega, (HS.out.trans HS7.out).trans HSi.out⟩
            case measure => simp [intOf]; omega
    · obtain rfl : k = cs.length := by omega
      clear hS
      go_wp2
      go_ret
      exact ⟨rfl, HS.out⟩
end Go.Proofs.Ytoldelocfmpccaa
