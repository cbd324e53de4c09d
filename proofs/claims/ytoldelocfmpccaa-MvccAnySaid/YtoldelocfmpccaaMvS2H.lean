/-
  One of the longer walks of mvcc (written by bundle.py out of: MvS2). No condition.
-/
import Derived.Test.YtoldelocfmpccaaQ4
set_option linter.unusedSimpArgs false
set_option linter.unusedVariables false
namespace Go.Proofs.Ytoldelocfmpccaa
open Go.RowKit

set_option maxHeartbeats 4000000 in
theorem mvsettle_any (v : Value) (cs : List Cel) (b : TryT) (yes : Bool) (S : Nat → Prop) (w : World) (hv : CelR w S v cs) (hn : cs.length ≤ 100000) (hn2 : ∀ c ∈ cs, c.vers.length ≤ 1000000) (hso : ∀ c ∈ cs, SortV c.vers) :
    Calls Try.prog 25 #[v, tryV b, .bool yes] w (AllP (setlF cs b yes) w) := by
  obtain ⟨A, cp, rfl, hc, hm⟩ := hv.form
  have Hv := Lib.hid hv
  have Hn2 := Lib.hid hn2
  have Hso := Lib.hid hso
  have hrel0 : FlatRel (setlC b yes) cs (w.heap.size + 1) w.heap.size 26 (tryCs b) 0 (.slice none 0 0) w (w.alloc (.cells (tryCs b).toArray 26)) :=
    ⟨Nat.zero_le _, OwnC.nil _ _, Row.new _ _ _, by omega, by simp, (Same.refl _ _).alloc _⟩
  have Hrel0 := Lib.hid hrel0
  unfold maxLen at hm
  clear hv hn2 hrel0 hso
  go_enter Try.func25, Try.ntmps25
  go_wp2
  go_loopw [7, 9, 12] (fun l _ i wr => ∃ k : Nat, i = .int .i64 k ∧ FlatRel (setlC b yes) cs (w.heap.size + 1) w.heap.size 26 (tryCs b) k l w wr) (fun _ _ i _ => cs.length - (intOf i).toNat)
  case atStart => exact ⟨0, rfl, Hrel0.out⟩
  case round =>
    obtain ⟨k, rfl, hrel⟩ := hrel
    have hk := hrel.le
    have hS := hrel.same
    have HS := Lib.hid hS
    have hsz := hrel.row.lt
    obtain ⟨Al, nl, cl, rfl, hl1, hl2⟩ := hrel.own.form3
    have Hrel := Lib.hid hrel
    unfold maxLen at hl2
    by_cases hlt : k < cs.length
    · obtain ⟨ad, u, rfl, -, hvr, c0, c1, c2, c3, c4, c5, c6, c7, c8, c9, c10, c11⟩ := CelR.cells12 (Hv.out.keepAll hS) hlt
      obtain ⟨Au, cu, rfl, -, -⟩ := hvr.form
      have x1 : (0 : Int) ≤ (k : Int) := by omega
      have x2 : (k : Int) < (cs.length : Int) := by omega
      have hab := World.block_lt_of_cell? wr _ c0
      have hcl := Hn2.out cs[k] (List.getElem_mem hlt)
      have hcs := Hso.out cs[k] (List.getElem_mem hlt)
      obtain ⟨c, hck⟩ : ∃ c, c = cs[k] := ⟨_, rfl⟩
      rw [← hck] at c0 c1 c2 c3 c4 c5 c6 c7 c8 c9 c10 c11 hvr hcl hcs
      have Hck := Lib.hid hck
      have Hcs := Lib.hid hcs
      have Hvr := Lib.hid hvr
      clear hvr hS hck hrel hcs
      have hrow := Row.new wr 64 (celCs (.slice Au c.vers.length cu, c))
      have Hrow := Lib.hid hrow
      have g := own_any (.slice Au c.vers.length cu) c S (wr.alloc (.cells (celCs (.slice Au c.vers.length cu, c)).toArray 64)) (RowR.keepAll Hvr.out ((Same.refl _ _).alloc _)) hcl
      clear hrow
      go_wp2_with (go_at_call 65; refine stopAt ?_)
      unfold Hid
      refine g.mono ?_
      rintro e w5 ⟨u', rfl, hown5, hS5⟩
      obtain ⟨A5, c5', rfl, hq1, hq2⟩ := hown5.form
      unfold maxLen at hq2
      have hbox := Hrow.out.keep hS5 trivial
      have hS6 := ((Same.refl (fun _ => True) wr).alloc (.cells (celCs (.slice Au c.vers.length cu, c)).toArray 64)).trans hS5
      have HS6 := Lib.hid hS6
      have Hown5 := Lib.hid hown5
      have Hbox := Lib.hid hbox
      obtain ⟨a0, a1, a2, a3, a4, a5, a6, a7, a8, a9, a10, a11, f0, f1, f2, f3, f4, f5, f6, f7, f8, f9, f10, f11⟩ := cel_cells hbox
      have z0 := hbox.lt
      clear hS5 hS6 hown5 hbox g c0 c1 c2 c3 c4 c5 c6 c7 c8 c9 c10 c11
      go_wp2_with (with_reducible refine stopFA 2 rfl ?_)
      unfold Hid
      clear a0 a1 a2 a3 a4 a5 a6 a7 a8 a9 a10 a11 f0 f1 f2 f3 f4 f5 f6 f7 f8 f9 f10 f11
      rw [← set12_eq]
      obtain ⟨r1, r2⟩ := set12_row (b0 := .string (str c.key)) (b1 := .slice A5 c.vers.length c5') (b2 := .bool c.locked) (b3 := .int .i64 c.lock.by_.node) (b4 := .int .i64 c.lock.by_.life) (b5 := .int .i64 c.lock.by_.seq) (b6 := .int .i64 c.lock.by_.attempt) (b7 := .int .i64 c.lock.home) (b8 := .int .i64 c.lock.at_.wall) (b9 := .int .i64 c.lock.at_.tie) (b10 := .bool c.lock.drop) (b11 := .string (str c.lock.data)) Hbox.out
      revert r1 r2
      generalize set12 w5 wr.heap.size _ _ _ _ _ _ _ _ _ _ _ _ = W7
      intro r1 r2
      have hown7 := (Hown5.out.keep r2 fun j h1 h2 => by rw [World.size_alloc] at h1; omega).lower (B' := wr.heap.size + 1) (by rw [World.size_alloc]; omega)
      have hS7 : Same (fun _ => True) wr W7 := HS6.out.trans' r2 fun j hj _ => by omega
      have z7 := r1.lt
      obtain ⟨a0, a1, a2, a3, a4, a5, a6, a7, a8, a9, a10, a11, f0, f1, f2, f3, f4, f5, f6, f7, f8, f9, f10, f11⟩ := cel_cells r1
      have hrowb := Hrel.out.row.keep hS7 trivial
      have t0 : W7.cell? ⟨w.heap.size, 0, none⟩ = some (.int .i64 b.node) := hrowb.cell 0
      have t1 : W7.cell? ⟨w.heap.size, 1, none⟩ = some (.int .i64 b.life) := hrowb.cell 1
      have t2 : W7.cell? ⟨w.heap.size, 2, none⟩ = some (.int .i64 b.seq) := hrowb.cell 2
      have t3 : W7.cell? ⟨w.heap.size, 3, none⟩ = some (.int .i64 b.attempt) := hrowb.cell 3
      have HS7 := Lib.hid hS7
      have Hown7 := Lib.hid hown7
      have Hbox7 := Lib.hid r1
      clear r1 r2 hown7 hS7 hrowb
      cases hl : c.locked
      · rw [hl] at a2
        have hmb : mineB c b = false := by unfold mineB; rw [hl]; rfl
        by_cases hlen : c.vers.length = 0
        · have hf : setlC b yes cs[k] = [] := by rw [← Hck.out]; unfold setlC; rw [hmb]; simp [keptB, hl, List.length_eq_zero_iff.1 hlen]
          have Hf := Lib.hid hf
          have e1 : (c.vers.length : Int) = 0 := by omega
          clear hf hmb hlen hl
          go_wp2
          go_roundw
          case rel =>
            refine ⟨k + 1, by go_num, Hrel.out.next hlt Hf.out (HS7.out.trans' (S' := fun q => q ≠ wr.heap.size) ?_ fun q hq _ => by omega)⟩
            repeat (refine Same.setCell ?_ (fun _ h => h rfl) _)
            exact Same.refl _ _
          case measure => simp [intOf]; omega
        · have hf : setlC b yes cs[k] = [c] := by
            rw [← Hck.out]; unfold setlC; rw [hmb]
            have hne : c.vers ≠ [] := fun h => hlen (by rw [h]; rfl)
            simp [keptB, hne]
          have Hf := Lib.hid hf
          have e1 : (0 : Int) < (c.vers.length : Int) := by omega
          clear hf hmb hlen
          go_wp2_with (at_builtin; refine stopAt ?_)
          unfold Hid
          refine wpList_appK (c := c) (B := w.heap.size + 1) rfl (.tmp 53) (.tmp 55) rfl rfl rfl (by first | rfl | simp) (by simp [celCs, lckCs, Lck.zero, str, hl]) Hrel.out (setlC_len b _) hlt Hf.out hn (by omega) Hown7.out.wr (fun q h => by omega) ?_ ?_ ?_
          · repeat (refine Same.setCell ?_ (fun _ h => by omega) _)
            exact Same.refl _ _
          · refine HS7.out.trans' (S' := fun q => q ≠ wr.heap.size) ?_ fun q hq _ => by omega
            repeat (refine Same.setCell ?_ (fun _ h => h rfl) _)
            exact Same.refl _ _
          intro v' w9 Hrel9
          go_wp2
          go_roundw
          case rel => exact ⟨k + 1, by go_num, Hrel9.out⟩
          case measure => simp [intOf]; omega
      · rw [hl] at a2
        rcases try_cases c.lock.by_ b with he | ⟨he, h | ⟨h1, h⟩ | ⟨h1, h2, h⟩ | ⟨h1, h2, h3, h⟩⟩
        · rw [← he] at t0 t1 t2 t3
          have hmb : mineB c b = true := by unfold mineB; rw [hl, he]; simp
          cases yes
          · have hv7 := Hown7.out.wr
            have Hv7 := Lib.hid hv7
            clear hv7
            go_wp2_with (with_reducible refine stopDst 45 rfl ?_)
            unfold Hid
            clear a0 a1 a2 a3 a4 a5 a6 a7 a8 a9 a10 a11 f0 f1 f2 f3 f4 f5 f6 f7 f8 f9 f10 f11 t0 t1 t2 t3
            rw [← set10_eq]
            obtain ⟨r1, r2⟩ := set10_row (b2 := .bool false) (b3 := .int .i64 0) (b4 := .int .i64 0) (b5 := .int .i64 0) (b6 := .int .i64 0) (b7 := .int .i64 0) (b8 := .int .i64 0) (b9 := .int .i64 0) (b10 := .bool false) (b11 := .string ⟨#[]⟩) Hbox7.out
            revert r1 r2
            generalize set10 W7 wr.heap.size _ _ _ _ _ _ _ _ _ _ = W9
            intro r1 r2
            have hv9 := Hv7.out.keep (r2.mono fun q _ hq => by omega)
            have hS9 : Same (fun _ => True) wr W9 := HS7.out.trans' r2 fun j hj _ => by omega
            obtain ⟨a0, a1, a2, a3, a4, a5, a6, a7, a8, a9, a10, a11, -⟩ := cel_cells r1
            have HS7 := Lib.hid hS9
            have Hv7 := Lib.hid hv9
            clear r1 r2 hS9 hv9
            by_cases hlen : c.vers.length = 0
            · have hf : setlC b false cs[k] = [] := by rw [← Hck.out]; unfold setlC; rw [hmb]; simp [keptB, freeC, List.length_eq_zero_iff.1 hlen]
              have Hf := Lib.hid hf
              have e1 : (c.vers.length : Int) = 0 := by omega
              clear hf hmb hlen hl he
              go_wp2
              go_roundw
              case rel =>
                refine ⟨k + 1, by go_num, Hrel.out.next hlt Hf.out (HS7.out.trans' (S' := fun q => q ≠ wr.heap.size) ?_ fun q hq _ => by omega)⟩
                repeat (refine Same.setCell ?_ (fun _ h => h rfl) _)
                exact Same.refl _ _
              case measure => simp [intOf]; omega
            · have hf : setlC b false cs[k] = [freeC false c] := by
                rw [← Hck.out]; unfold setlC; rw [hmb]
                have hne : c.vers ≠ [] := fun h => hlen (by rw [h]; rfl)
                simp [keptB, freeC, hne]
              have Hf := Lib.hid hf
              have e1 : (0 : Int) < (c.vers.length : Int) := by omega
              clear hf hmb hlen he
              go_wp2_with (at_builtin; refine stopAt ?_)
              unfold Hid
              refine wpList_appK (c := freeC false c) (B := w.heap.size + 1) rfl (.tmp 53) (.tmp 55) rfl rfl rfl (by first | rfl | simp) (by simp [celCs, lckCs, Lck.zero, str, hl, freeC]) Hrel.out (setlC_len b _) hlt Hf.out hn (by omega) Hv7.out (fun q h => by omega) ?_ ?_ ?_
              · repeat (refine Same.setCell ?_ (fun _ h => by omega) _)
                exact Same.refl _ _
              · refine HS7.out.trans' (S' := fun q => q ≠ wr.heap.size) ?_ fun q hq _ => by omega
                repeat (refine Same.setCell ?_ (fun _ h => h rfl) _)
                exact Same.refl _ _
              intro v' w9 Hrel9
              go_wp2
              go_roundw
              case rel => exact ⟨k + 1, by go_num, Hrel9.out⟩
              case measure => simp [intOf]; omega
          · have hpl := put_len c.vers (lockV c)
            have hf : setlC b true cs[k] = [freeC true c] := by
              rw [← Hck.out]; unfold setlC; rw [hmb]
              have hne : putF c.vers (lockV c) ≠ [] := fun h => by rw [h] at hpl; simp at hpl
              simp [keptB, freeC, hne]
            have Hf := Lib.hid hf
            have e1 : (0 : Int) < ((putF c.vers (lockV c)).length : Int) := by omega
            have gp := put_any (.slice A5 c.vers.length c5') c.vers (lockV c) (wr.heap.size + 1) W7 Hown7.out (by omega) Hcs.out hcl
            unfold lockV at gp
            clear hf hmb he hpl
            go_wp2_with (go_at_call 66; refine stopAt ?_)
            unfold Hid
            refine gp.mono ?_
            rintro e w8 ⟨v8, rfl, hown8, hS8⟩
            obtain ⟨A8, n8, c8, rfl, hn8⟩ : ∃ Aq nq cq, v8 = .slice Aq nq cq ∧ nq = (putF c.vers (lockV c)).length := by
              obtain ⟨Aq, cq, h1, h2, h3⟩ := hown8.form
              exact ⟨Aq, _, cq, h1, rfl⟩
            have hS9 : Same (fun q => q < wr.heap.size + 1) W7 w8 := hS8.mono fun q _ hq e => by
              have := (Hown7.out.lt_ e.symm).1
              omega
            have hbox8 := Hbox7.out.keep hS9 (by omega)
            have hS10 : Same (fun _ => True) wr w8 := HS7.out.trans' hS9 fun q hq _ => by omega
            have z8 := hbox8.lt
            have g1 := hbox8.frozen 1
            have b1 : w8.cell? ⟨wr.heap.size, 1, none⟩ = some (.slice A5 c.vers.length c5') := hbox8.cell 1
            have Hown8 := Lib.hid hown8.wr
            have Hbox8 := Lib.hid hbox8
            have HS8 := Lib.hid hS10
            rw [← hn8] at e1
            have Hn8 := Lib.hid hn8
            clear hn8 hown8 hS8 hS9 hbox8 hS10 gp a0 a1 a2 a3 a4 a5 a6 a7 a8 a9 a10 a11 f0 f1 f2 f3 f4 f5 f6 f7 f8 f9 f10 f11
            go_wp2_with (with_reducible refine stopDst 43 rfl ?_)
            unfold Hid
            have r1 := Hbox8.out.set_ 1 (.slice A8 n8 c8)
            have r2 : Same (fun q => q ≠ wr.heap.size) w8 (w8.setCell ⟨wr.heap.size, 1, none⟩ (.slice A8 n8 c8)) := (Same.refl _ _).setCell (fun _ h => h rfl) _
            revert r1 r2
            generalize w8.setCell ⟨wr.heap.size, 1, none⟩ (.slice A8 n8 c8) = W8
            intro r1 r2
            simp only [List.set_cons_succ, List.set_cons_zero] at r1
            have hv8 := Hown8.out.keep (r2.mono fun q _ hq => by omega)
            have hS9 : Same (fun _ => True) wr W8 := HS8.out.trans' r2 fun j hj _ => by omega
            obtain ⟨W7, rfl⟩ : ∃ W7, W7 = W8 := ⟨_, rfl⟩
            obtain ⟨a0, a1, a2, a3, a4, a5, a6, a7, a8, a9, a10, a11, f0, f1, f2, f3, f4, f5, f6, f7, f8, f9, f10, f11⟩ := cel_cells r1
            have z7 := r1.lt
            have HS7 := Lib.hid hS9
            have Hv7 := Lib.hid hv8
            have Hbox7 := Lib.hid r1
            clear r1 r2 hS9 hv8 b1 g1
            go_wp2_with (with_reducible refine stopDst 45 rfl ?_)
            unfold Hid
            clear a0 a1 a2 a3 a4 a5 a6 a7 a8 a9 a10 a11 f0 f1 f2 f3 f4 f5 f6 f7 f8 f9 f10 f11
            rw [← set10_eq]
            obtain ⟨r1, r2⟩ := set10_row (b2 := .bool false) (b3 := .int .i64 0) (b4 := .int .i64 0) (b5 := .int .i64 0) (b6 := .int .i64 0) (b7 := .int .i64 0) (b8 := .int .i64 0) (b9 := .int .i64 0) (b10 := .bool false) (b11 := .string ⟨#[]⟩) Hbox7.out
            revert r1 r2
            generalize set10 W7 wr.heap.size _ _ _ _ _ _ _ _ _ _ = W9
            intro r1 r2
            have hv9 := Hv7.out.keep (r2.mono fun q _ hq => by omega)
            have hS9 : Same (fun _ => True) wr W9 := HS7.out.trans' r2 fun j hj _ => by omega
            obtain ⟨a0, a1, a2, a3, a4, a5, a6, a7, a8, a9, a10, a11, -⟩ := cel_cells r1
            have HS7 := Lib.hid hS9
            have Hv7 := Lib.hid hv9
            clear r1 r2 hS9 hv9
            go_wp2_with (at_builtin; refine stopAt ?_)
            unfold Hid
            refine wpList_appK (c := freeC true c) (B := w.heap.size + 1) rfl (.tmp 53) (.tmp 55) rfl rfl rfl (by first | rfl | simp) (by simp [celCs, lckCs, Lck.zero, str, hl, freeC, Hn8.out, lockV]) Hrel.out (setlC_len b _) hlt Hf.out hn (by omega) Hv7.out (fun q h => by omega) ?_ ?_ ?_
            · repeat (refine Same.setCell ?_ (fun _ h => by omega) _)
              exact Same.refl _ _
            · refine HS7.out.trans' (S' := fun q => q ≠ wr.heap.size) ?_ fun q hq _ => by omega
              repeat (refine Same.setCell ?_ (fun _ h => h rfl) _)
              exact Same.refl _ _
            intro v' w9 Hrel9
            go_wp2
            go_roundw
            case rel => exact ⟨k + 1, by go_num, Hrel9.out⟩
            case measure => simp [intOf]; omega
        · have hf : setlC b yes cs[k] = [c] := by rw [← Hck.out]; unfold setlC mineB; rw [he]; simp [keptB, hl]
          have Hf := Lib.hid hf
          have hb : (c.lock.by_.node == b.node) = false := by simpa using h
          clear hf he h
          go_wp2_with (at_builtin; refine stopAt ?_)
          unfold Hid
          refine wpList_appK (c := c) (B := w.heap.size + 1) rfl (.tmp 53) (.tmp 55) rfl rfl rfl (by first | rfl | simp) (by simp [celCs, lckCs, Lck.zero, str, hl]) Hrel.out (setlC_len b _) hlt Hf.out hn (by omega) Hown7.out.wr (fun q h => by omega) ?_ ?_ ?_
          · repeat (refine Same.setCell ?_ (fun _ h => by omega) _)
            exact Same.refl _ _
          · refine HS7.out.trans' (S' := fun q => q ≠ wr.heap.size) ?_ fun q hq _ => by omega
            repeat (refine Same.setCell ?_ (fun _ h => h rfl) _)
            exact Same.refl _ _
          intro v' w9 Hrel9
          go_wp2
          go_roundw
          case rel => exact ⟨k + 1, by go_num, Hrel9.out⟩
          case measure => simp [intOf]; omega
        · have hf : setlC b yes cs[k] = [c] := by rw [← Hck.out]; unfold setlC mineB; rw [he]; simp [keptB, hl]
          have Hf := Lib.hid hf
          have hb : (c.lock.by_.life == b.life) = false := by simpa using h
          clear hf he h
          rw [h1] at a3
          go_wp2_with (at_builtin; refine stopAt ?_)
          unfold Hid
          refine wpList_appK (c := c) (B := w.heap.size + 1) rfl (.tmp 53) (.tmp 55) rfl rfl rfl (by first | rfl | simp) (by simp [celCs, lckCs, Lck.zero, str, hl, h1]) Hrel.out (setlC_len b _) hlt Hf.out hn (by omega) Hown7.out.wr (fun q h => by omega) ?_ ?_ ?_
          · repeat (refine Same.setCell ?_ (fun _ h => by omega) _)
            exact Same.refl _ _
          · refine HS7.out.trans' (S' := fun q => q ≠ wr.heap.size) ?_ fun q hq _ => by omega
            repeat (refine Same.setCell ?_ (fun _ h => h rfl) _)
            exact Same.refl _ _
          intro v' w9 Hrel9
          go_wp2
          go_roundw
          case rel => exact ⟨k + 1, by go_num, Hrel9.out⟩
          case measure => simp [intOf]; omega
        · have hf : setlC b yes cs[k] = [c] := by rw [← Hck.out]; unfold setlC mineB; rw [he]; simp [keptB, hl]
          have Hf := Lib.hid hf
          have hb : (c.lock.by_.seq == b.seq) = false := by simpa using h
          clear hf he h
          rw [h1] at a3
          rw [h2] at a4
          go_wp2_with (at_builtin; refine stopAt ?_)
          unfold Hid
          refine wpList_appK (c := c) (B := w.heap.size + 1) rfl (.tmp 53) (.tmp 55) rfl rfl rfl (by first | rfl | simp) (by simp [celCs, lckCs, Lck.zero, str, hl, h1, h2]) Hrel.out (setlC_len b _) hlt Hf.out hn (by omega) Hown7.out.wr (fun q h => by omega) ?_ ?_ ?_
          · repeat (refine Same.setCell ?_ (fun _ h => by omega) _)
            exact Same.refl _ _
          · refine HS7.out.trans' (S' := fun q => q ≠ wr.heap.size) ?_ fun q hq _ => by omega
            repeat (refine Same.setCell ?_ (fun _ h => h rfl) _)
            exact Same.refl _ _
          intro v' w9 Hrel9
          go_wp2
          go_roundw
          case rel => exact ⟨k + 1, by go_num, Hrel9.out⟩
          case measure => simp [intOf]; omega
        · have hf : setlC b yes cs[k] = [c] := by rw [← Hck.out]; unfold setlC mineB; rw [he]; simp [keptB, hl]
          have Hf := Lib.hid hf
          have hb : (c.lock.by_.attempt == b.attempt) = false := by simpa using h
          clear hf he h
          rw [h1] at a3
          rw [h2] at a4
          rw [h3] at a5
          go_wp2_with (at_builtin; refine stopAt ?_)
          unfold Hid
          refine wpList_appK (c := c) (B := w.heap.size + 1) rfl (.tmp 53) (.tmp 55) rfl rfl rfl (by first | rfl | simp) (by simp [celCs, lckCs, Lck.zero, str, hl, h1, h2, h3]) Hrel.out (setlC_len b _) hlt Hf.out hn (by omega) Hown7.out.wr (fun q h => by omega) ?_ ?_ ?_
          · repeat (refine Same.setCell ?_ (fun _ h => by omega) _)
            exact Same.refl _ _
          · refine HS7.out.trans' (S' := fun q => q ≠ wr.heap.size) ?_ fun q hq _ => by omega
            repeat (refine Same.setCell ?_ (fun _ h => h rfl) _)
            exact Same.refl _ _
          intro v' w9 Hrel9
          go_wp2
          go_roundw
          case rel => exact ⟨k + 1, by go_num, Hrel9.out⟩
          case measure => simp [intOf]; omega
    · obtain rfl : k = cs.length := by omega
      have hown := hrel.own
      rw [List.take_length] at hown
      have Hown := Lib.hid hown
      clear hS hown hrel
      go_wp2
      go_ret
      exact ⟨_, rfl, Hown.out.lower (by omega), HS.out⟩
end Go.Proofs.Ytoldelocfmpccaa
