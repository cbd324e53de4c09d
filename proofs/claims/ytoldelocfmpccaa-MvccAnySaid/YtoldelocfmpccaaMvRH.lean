/-
  One of the longer walks of mvcc (written by bundle.py out of: MvR). No condition.
-/
import Derived.Test.YtoldelocfmpccaaQ4
set_option linter.unusedSimpArgs false
set_option linter.unusedVariables false
namespace Go.Proofs.Ytoldelocfmpccaa
open Go.RowKit

set_option maxHeartbeats 2000000 in
theorem mvtrim_any (v : Value) (cs : List Cel) (a : St) (S : Nat → Prop) (w : World) (hv : CelR w S v cs) (hn : cs.length ≤ 100000) (hn2 : ∀ c ∈ cs, c.vers.length ≤ 1000000) :
    Calls Try.prog 32 #[v, stV a] w (AllP (trimF cs a) w) := by
  obtain ⟨A, cp, rfl, hc, hm⟩ := hv.form
  have Hv := Lib.hid hv
  have Hn2 := Lib.hid hn2
  have hr1 := Row.new w 28 (stCs a)
  have Hr1 := Lib.hid hr1
  unfold maxLen at hm
  clear hv hn2 hr1
  go_enter Try.func32, Try.ntmps32
  go_wp2
  go_loopw [5, 7, 8, 11] (fun l _ _ i wr => ∃ k : Nat, i = .int .i64 k ∧ k ≤ cs.length ∧ OwnC wr (w.heap.size + 1) l (trimF (cs.take k) a) ∧ Row wr w.heap.size 28 (stCs a) ∧ Same (fun _ => True) w wr) (fun _ _ _ i _ => cs.length - (intOf i).toNat)
  case atStart => exact ⟨0, rfl, Nat.zero_le _, by rw [List.take_zero]; exact OwnC.nil _ _, Hr1.out, (Same.refl _ _).alloc _⟩
  case round =>
    obtain ⟨k, rfl, hk, hown, hr1, hS⟩ := hrel
    have HS := Lib.hid hS
    have Hown := Lib.hid hown
    have Hr1 := Lib.hid hr1
    have hsz := hr1.lt
    obtain ⟨Al, nl, cl, rfl, hl1, hl2⟩ := hown.form3
    unfold maxLen at hl2
    by_cases hlt : k < cs.length
    · obtain ⟨ad, u, rfl, -, hvr, c0, c1, c2, c3, c4, c5, c6, c7, c8, c9, c10, c11⟩ := CelR.cells12 (Hv.out.keepAll hS) hlt
      obtain ⟨Au, cu, rfl, -, -⟩ := hvr.form
      have x1 : (0 : Int) ≤ (k : Int) := by omega
      have x2 : (k : Int) < (cs.length : Int) := by omega
      have hab := World.block_lt_of_cell? wr _ c0
      have htk := trimF_take (a := a) hlt
      have htl := trimF_len a (cs.take k)
      rw [List.length_take] at htl
      have hcl := Hn2.out cs[k] (List.getElem_mem hlt)
      have Htk := Lib.hid htk
      have Htl := Lib.hid htl
      have Hvr := Lib.hid hvr
      clear hvr htk hown hS hr1 htl
      generalize cs[k] = c at *
      have hrow := Row.new wr 64 (celCs (.slice Au c.vers.length cu, c))
      have Hrow := Lib.hid hrow
      have g := own_any (.slice Au c.vers.length cu) c S (wr.alloc (.cells (celCs (.slice Au c.vers.length cu, c)).toArray 64)) (RowR.keepAll Hvr.out ((Same.refl _ _).alloc _)) hcl
      clear hrow
      go_wp2_with (go_at_call 65; refine stopAt ?_)
      unfold Hid
      refine g.mono ?_
      rintro e w5 ⟨u', rfl, hown5, hS5⟩
      obtain ⟨A5, c5', rfl, hq1, hq2⟩ := hown5.form
      unfold maxLen at hq2
      have hbox := Hrow.out.keep hS5 trivial
      have hS6 := ((Same.refl (fun _ => True) wr).alloc (.cells (celCs (.slice Au c.vers.length cu, c)).toArray 64)).trans hS5
      have HS6 := Lib.hid hS6
      have Hown5 := Lib.hid hown5
      have Hbox := Lib.hid hbox
      obtain ⟨a0, a1, a2, a3, a4, a5, a6, a7, a8, a9, a10, a11, f0, f1, f2, f3, f4, f5, f6, f7, f8, f9, f10, f11⟩ := cel_cells hbox
      have z0 := hbox.lt
      have s0 : w5.cell? ⟨w.heap.size, 0, none⟩ = some (.int .i64 a.wall) := (Hr1.out.keep hS6 trivial).cell 0
      have s1 : w5.cell? ⟨w.heap.size, 1, none⟩ = some (.int .i64 a.tie) := (Hr1.out.keep hS6 trivial).cell 1
      have hne : ¬ wr.heap.size = w.heap.size := by omega
      have hne2 : ¬ w.heap.size = wr.heap.size := by omega
      clear hS5 hS6 hown5 hbox g c0 c1 c2 c3 c4 c5 c6 c7 c8 c9 c10 c11
      go_wp2_with (go_at_call 72; refine stopAt ?_)
      unfold Hid
      obtain ⟨r1, r2⟩ := cel_set12 (b0 := .string (str c.key)) (b1 := .slice A5 c.vers.length c5') (b2 := .bool c.locked) (b3 := .int .i64 c.lock.by_.node) (b4 := .int .i64 c.lock.by_.life) (b5 := .int .i64 c.lock.by_.seq) (b6 := .int .i64 c.lock.by_.attempt) (b7 := .int .i64 c.lock.home) (b8 := .int .i64 c.lock.at_.wall) (b9 := .int .i64 c.lock.at_.tie) (b10 := .bool c.lock.drop) (b11 := .string (str c.lock.data)) (fun _ h => h rfl) Hbox.out (Same.refl (fun j => j ≠ wr.heap.size) w5)
      have hown6 := Hown5.out.keep r2 fun j h1 h2 => by rw [World.size_alloc] at h1; omega
      refine (mvlast_any (.slice A5 c.vers.length c5') c.vers a _ _ (hown6.wr.row verCs_len)).mono ?_
      rintro e w7 ⟨rfl, hS7⟩
      have hbox7 := r1.keep hS7 trivial
      have hv7 := (hown6.wr.keepAll hS7).mono (S' := fun j => wr.heap.size + 1 ≤ j) fun j _ hj => by rw [World.size_alloc] at hj; omega
      have hS8 : Same (fun _ => True) wr w7 := (HS6.out.trans' r2 fun j hj _ => by omega).trans hS7
      have HS8 := Lib.hid hS8
      have Hv7 := Lib.hid hv7
      have Hbox7 := Lib.hid hbox7
      obtain ⟨b0, b1, b2, b3, b4, b5, b6, b7, b8, b9, b10, b11, -, g1, -⟩ := cel_cells hbox7
      have z7 := hbox7.lt
      have t0 : w7.cell? ⟨w.heap.size, 0, none⟩ = some (.int .i64 a.wall) := (Hr1.out.keep hS8 trivial).cell 0
      have t1 : w7.cell? ⟨w.heap.size, 1, none⟩ = some (.int .i64 a.tie) := (Hr1.out.keep hS8 trivial).cell 1
      have hbd := lastF_bd c.vers a
      clear r1 r2 hown6 hS7 hbox7 hv7 hS8 a0 a1 a2 a3 a4 a5 a6 a7 a8 a9 a10 a11 f0 f1 f2 f3 f4 f5 f6 f7 f8 f9 f10 f11 s0 s1 hne hne2
      rcases Int.lt_or_le (lastF c.vers a) 0 with hneg | hpos
      · have hi : trimV c.vers a = c.vers := by unfold trimV trimI; rw [if_pos hneg, List.drop_zero]
        have hself : ({ c with vers := trimV c.vers a } : Cel) = c := by rw [hi]
        have htc : trimC a c = if keptB c then [c] else [] := by unfold trimC; rw [hself]
        have Htc := Lib.hid htc
        clear hi hself htc
        cases hkb : keptB c
        · have hl : c.locked = false ∧ c.vers.length = 0 := by
            unfold keptB at hkb
            simp at hkb
            exact ⟨hkb.1, by rw [hkb.2]; rfl⟩
          have Hkb := Lib.hid hkb
          obtain ⟨hl1, hl2⟩ := hl
          rw [hl1] at b2
          have hl3 : (c.vers.length : Int) = 0 := by omega
          clear hkb
          go_wp2
          go_roundw
          case rel =>
            refine ⟨k + 1, by go_num, by omega, ?_, Hr1.out.keep HS8.out trivial, HS.out.trans HS8.out⟩
            rw [Htk.out, Htc.out, Hkb.out]
            simpa using Hown.out.keepAll HS8.out
          case measure => simp [intOf]; omega
        · have Hkb := Lib.hid hkb
          cases hl : c.locked
          · rw [hl] at b2
            have hl3 : (0 : Int) < (c.vers.length : Int) := by
              unfold keptB at hkb
              rw [hl] at hkb
              simp at hkb
              have := List.length_pos_iff.2 hkb
              omega
            have hcell : (#[.string (str c.key), (.slice A5 c.vers.length c5'), .bool false, .int .i64 c.lock.by_.node, .int .i64 c.lock.by_.life, .int .i64 c.lock.by_.seq, .int .i64 c.lock.by_.attempt, .int .i64 c.lock.home, .int .i64 c.lock.at_.wall, .int .i64 c.lock.at_.tie, .bool c.lock.drop, .string (str c.lock.data)] : Array Value) = (celCs ((.slice A5 c.vers.length c5'), c)).toArray := by simp [celCs, lckCs, hl]
            have Hcell := Lib.hid hcell
            clear hcell hl hkb
            go_wp2_with (at_builtin; refine stopAt ?_)
            unfold Hid
            rw [Hcell.out]
            refine wpList_appC (w := w7) (c := c) (B := w.heap.size + 1) rfl (.tmp 44) (.tmp 46) rfl rfl rfl rfl (Hown.out.keepAll HS8.out) (Hv7.out.mono fun j _ hj => by omega) (by have := HS8.out.size; omega) (by have := Htl.out; omega) ?_
            intro v' w9 hown9 hS9
            have Hown9 := Lib.hid hown9
            have HS9 := Lib.hid hS9
            clear hown9 hS9
            go_wp2
            go_roundw
            case rel =>
              refine ⟨k + 1, by go_num, by omega, ?_, (Hr1.out.keep HS8.out trivial).keep HS9.out (by omega), (HS.out.trans HS8.out).trans' HS9.out fun j hj _ => by omega⟩
              rw [Htk.out, Htc.out, Hkb.out]
              exact Hown9.out
            case measure => simp [intOf]; omega
          · rw [hl] at b2
            have hcell : (#[.string (str c.key), (.slice A5 c.vers.length c5'), .bool true, .int .i64 c.lock.by_.node, .int .i64 c.lock.by_.life, .int .i64 c.lock.by_.seq, .int .i64 c.lock.by_.attempt, .int .i64 c.lock.home, .int .i64 c.lock.at_.wall, .int .i64 c.lock.at_.tie, .bool c.lock.drop, .string (str c.lock.data)] : Array Value) = (celCs ((.slice A5 c.vers.length c5'), c)).toArray := by simp [celCs, lckCs, hl]
            have Hcell := Lib.hid hcell
            clear hcell hl hkb
            go_wp2_with (at_builtin; refine stopAt ?_)
            unfold Hid
            rw [Hcell.out]
            refine wpList_appC (w := w7) (c := c) (B := w.heap.size + 1) rfl (.tmp 44) (.tmp 46) rfl rfl rfl rfl (Hown.out.keepAll HS8.out) (Hv7.out.mono fun j _ hj => by omega) (by have := HS8.out.size; omega) (by have := Htl.out; omega) ?_
            intro v' w9 hown9 hS9
            have Hown9 := Lib.hid hown9
            have HS9 := Lib.hid hS9
            clear hown9 hS9
            go_wp2
            go_roundw
            case rel =>
              refine ⟨k + 1, by go_num, by omega, ?_, (Hr1.out.keep HS8.out trivial).keep HS9.out (by omega), (HS.out.trans HS8.out).trans' HS9.out fun j hj _ => by omega⟩
              rw [Htk.out, Htc.out, Hkb.out]
              exact Hown9.out
            case measure => simp [intOf]; omega
      · obtain ⟨j, hj⟩ := Int.eq_ofNat_of_zero_le hpos
        rw [hj]
        have hjl : j < c.vers.length := by omega
        obtain ⟨ad2, e2, -, d0, d1, d2, d3⟩ := VerR.cells (Hv7.out.row verCs_len) hjl
        subst e2
        have y1 : (0 : Int) ≤ (j : Int) := by omega
        have y2 : (j : Int) < (c.vers.length : Int) := by omega
        have hti : trimI c.vers a = if c.vers[j].drop then j + 1 else j := by
          unfold trimI
          rw [hj, if_neg (by omega)]
          simp [hjl]
        clear hj hpos hbd
        cases hd : c.vers[j].drop
        · rw [hd] at d2 hti
          have y3 : ¬ c5' = j := by omega
          have y4 : (j : Int) ≤ (c5' : Int) := by omega
          have y5 : (j : Int) ≤ (c.vers.length : Int) := by omega
          have y6 : (c.vers.length : Int) ≤ (c5' : Int) := by omega
          have y7 : (0 : Int) < ((c.vers.length - j : Nat) : Int) := by omega
          have htv : trimV c.vers a = c.vers.drop j := by unfold trimV; rw [hti]; simp
          have htc : trimC a c = [{ c with vers := c.vers.drop j }] := by
            unfold trimC keptB
            rw [htv, if_pos]
            simp [hjl]
          have hcut := Hv7.out.cut verCs_len (i := j) (by omega)
          rw [if_neg y3, Option.map_some] at hcut
          have Hcut := Lib.hid hcut
          have Htc := Lib.hid htc
          clear hd htv htc hcut hti
          cases hl : c.locked
          · rw [hl] at b2
            have hcell : (#[.string (str c.key), (.slice (some (ad2.add (j * 4))) (c.vers.length - j) (c5' - j)), .bool false, .int .i64 c.lock.by_.node, .int .i64 c.lock.by_.life, .int .i64 c.lock.by_.seq, .int .i64 c.lock.by_.attempt, .int .i64 c.lock.home, .int .i64 c.lock.at_.wall, .int .i64 c.lock.at_.tie, .bool c.lock.drop, .string (str c.lock.data)] : Array Value) = (celCs ((.slice (some (ad2.add (j * 4))) (c.vers.length - j) (c5' - j)), { c with vers := c.vers.drop j })).toArray := by simp [celCs, lckCs, hl]
            have Hcell := Lib.hid hcell
            clear hcell hl
            go_wp2_with (at_builtin; refine stopAt ?_)
            unfold Hid
            rw [Hcell.out]
            have hS9 : Same (fun q => q ≠ wr.heap.size) w7 (w7.setCell ⟨wr.heap.size, 1, none⟩ (.slice (some (ad2.add (j * 4))) (c.vers.length - j) (c5' - j))) := (Same.refl _ _).setCell (fun _ h => h rfl) _
            have hS10 : Same (fun _ => True) wr (w7.setCell ⟨wr.heap.size, 1, none⟩ (.slice (some (ad2.add (j * 4))) (c.vers.length - j) (c5' - j))) := HS8.out.trans' hS9 fun q hq _ => by omega
            have HS10 := Lib.hid hS10
            refine wpList_appC (w := w7.setCell ⟨wr.heap.size, 1, none⟩ (.slice (some (ad2.add (j * 4))) (c.vers.length - j) (c5' - j))) (c := { c with vers := c.vers.drop j }) (B := w.heap.size + 1) rfl (.tmp 44) (.tmp 46) rfl rfl rfl (by first | rfl | simp) (Hown.out.keepAll hS10) ((Hcut.out.keep (hS9.mono fun q _ hq => by omega)).mono fun q _ hq => by omega) (by have := hS10.size; omega) (by have := Htl.out; omega) ?_
            intro v' w9 hown9 hS11
            have Hown9 := Lib.hid hown9
            have HS11 := Lib.hid hS11
            clear hown9 hS9 hS10 hS11
            go_wp2
            go_roundw
            case rel =>
              refine ⟨k + 1, by go_num, by omega, ?_, (Hr1.out.keep HS10.out trivial).keep HS11.out (by omega), (HS.out.trans HS10.out).trans' HS11.out fun q hq _ => by omega⟩
              rw [Htk.out, Htc.out]
              exact Hown9.out
            case measure => simp [intOf]; omega
          · rw [hl] at b2
            have hcell : (#[.string (str c.key), (.slice (some (ad2.add (j * 4))) (c.vers.length - j) (c5' - j)), .bool true, .int .i64 c.lock.by_.node, .int .i64 c.lock.by_.life, .int .i64 c.lock.by_.seq, .int .i64 c.lock.by_.attempt, .int .i64 c.lock.home, .int .i64 c.lock.at_.wall, .int .i64 c.lock.at_.tie, .bool c.lock.drop, .string (str c.lock.data)] : Array Value) = (celCs ((.slice (some (ad2.add (j * 4))) (c.vers.length - j) (c5' - j)), { c with vers := c.vers.drop j })).toArray := by simp [celCs, lckCs, hl]
            have Hcell := Lib.hid hcell
            clear hcell hl
            go_wp2_with (at_builtin; refine stopAt ?_)
            unfold Hid
            rw [Hcell.out]
            have hS9 : Same (fun q => q ≠ wr.heap.size) w7 (w7.setCell ⟨wr.heap.size, 1, none⟩ (.slice (some (ad2.add (j * 4))) (c.vers.length - j) (c5' - j))) := (Same.refl _ _).setCell (fun _ h => h rfl) _
            have hS10 : Same (fun _ => True) wr (w7.setCell ⟨wr.heap.size, 1, none⟩ (.slice (some (ad2.add (j * 4))) (c.vers.length - j) (c5' - j))) := HS8.out.trans' hS9 fun q hq _ => by omega
            have HS10 := Lib.hid hS10
            refine wpList_appC (w := w7.setCell ⟨wr.heap.size, 1, none⟩ (.slice (some (ad2.add (j * 4))) (c.vers.length - j) (c5' - j))) (c := { c with vers := c.vers.drop j }) (B := w.heap.size + 1) rfl (.tmp 44) (.tmp 46) rfl rfl rfl (by first | rfl | simp) (Hown.out.keepAll hS10) ((Hcut.out.keep (hS9.mono fun q _ hq => by omega)).mono fun q _ hq => by omega) (by have := hS10.size; omega) (by have := Htl.out; omega) ?_
            intro v' w9 hown9 hS11
            have Hown9 := Lib.hid hown9
            have HS11 := Lib.hid hS11
            clear hown9 hS9 hS10 hS11
            go_wp2
            go_roundw
            case rel =>
              refine ⟨k + 1, by go_num, by omega, ?_, (Hr1.out.keep HS10.out trivial).keep HS11.out (by omega), (HS.out.trans HS10.out).trans' HS11.out fun q hq _ => by omega⟩
              rw [Htk.out, Htc.out]
              exact Hown9.out
            case measure => simp [intOf]; omega
        · rw [hd] at d2 hti
          have y4 : (j : Int) + 1 ≤ (c5' : Int) := by omega
          have y5 : (j : Int) + 1 ≤ (c.vers.length : Int) := by omega
          have y6 : (c.vers.length : Int) ≤ (c5' : Int) := by omega
          have htv : trimV c.vers a = c.vers.drop (j + 1) := by unfold trimV; rw [hti]; simp
          have hcut := Hv7.out.cut verCs_len (i := j + 1) (by omega)
          have Hcut := Lib.hid hcut
          have Htv := Lib.hid htv
          clear hd htv hcut hti
          by_cases y3 : c5' = j + 1
          · have hlen : c.vers.length = j + 1 := by omega
            have htv0 : trimV c.vers a = [] := by rw [Htv.out]; exact List.drop_eq_nil_of_le (by omega)
            have Htv0 := Lib.hid htv0
            have hlen' := Lib.hid hlen
            have y8 : ((c.vers.length - (j + 1) : Nat) : Int) = 0 := by omega
            clear htv0
            cases hl : c.locked
            · rw [hl] at b2
              have htc : trimC a c = [] := by unfold trimC keptB; rw [Htv0.out]; simp [hl]
              have Htc := Lib.hid htc
              clear htc hl
              obtain rfl : c5' = j + 1 := y3
              clear hlen
              go_wp2
              go_roundw
              case rel =>
                have hS9 : Same (fun q => q ≠ wr.heap.size) w7 (w7.setCell ⟨wr.heap.size, 1, none⟩ (.slice (some ad2) 0 0)) := (Same.refl _ _).setCell (fun _ h => h rfl) _
                have hS10 : Same (fun _ => True) wr (w7.setCell ⟨wr.heap.size, 1, none⟩ (.slice (some ad2) 0 0)) := HS8.out.trans' hS9 fun q hq _ => by omega
                refine ⟨k + 1, by go_num, by omega, ?_, Hr1.out.keep hS10 trivial, HS.out.trans hS10⟩
                rw [Htk.out, Htc.out]
                simpa using Hown.out.keepAll hS10
              case measure => simp [intOf]; omega
            · rw [hl] at b2
              have htc : trimC a c = [{ c with vers := [] }] := by unfold trimC keptB; rw [Htv0.out]; simp [hl]
              have Htc := Lib.hid htc
              have hcell : (#[.string (str c.key), (.slice (some ad2) 0 0), .bool true, .int .i64 c.lock.by_.node, .int .i64 c.lock.by_.life, .int .i64 c.lock.by_.seq, .int .i64 c.lock.by_.attempt, .int .i64 c.lock.home, .int .i64 c.lock.at_.wall, .int .i64 c.lock.at_.tie, .bool c.lock.drop, .string (str c.lock.data)] : Array Value) = (celCs ((.slice (some ad2) 0 0), { c with vers := [] })).toArray := by simp [celCs, lckCs, hl]
              have Hcell := Lib.hid hcell
              clear hcell hl htc
              obtain rfl : c5' = j + 1 := y3
              clear hlen
              go_wp2_with (at_builtin; refine stopAt ?_)
              unfold Hid
              rw [Hcell.out]
              have hS9 : Same (fun q => q ≠ wr.heap.size) w7 (w7.setCell ⟨wr.heap.size, 1, none⟩ (.slice (some ad2) 0 0)) := (Same.refl _ _).setCell (fun _ h => h rfl) _
              have hS10 : Same (fun _ => True) wr (w7.setCell ⟨wr.heap.size, 1, none⟩ (.slice (some ad2) 0 0)) := HS8.out.trans' hS9 fun q hq _ => by omega
              have HS10 := Lib.hid hS10
              refine wpList_appC (w := w7.setCell ⟨wr.heap.size, 1, none⟩ (.slice (some ad2) 0 0)) (c := { c with vers := [] }) (B := w.heap.size + 1) rfl (.tmp 44) (.tmp 46) rfl rfl rfl (by first | rfl | simp) (Hown.out.keepAll hS10) ⟨_, 0, rfl, by simp, by simp [maxLen], fun h => absurd h (by simp)⟩ (by have := hS10.size; omega) (by have := Htl.out; omega) ?_
              intro v' w9 hown9 hS11
              have Hown9 := Lib.hid hown9
              have HS11 := Lib.hid hS11
              clear hown9 hS9 hS10 hS11
              go_wp2
              go_roundw
              case rel =>
                refine ⟨k + 1, by go_num, by omega, ?_, (Hr1.out.keep HS10.out trivial).keep HS11.out (by omega), (HS.out.trans HS10.out).trans' HS11.out fun q hq _ => by omega⟩
                rw [Htk.out, Htc.out]
                exact Hown9.out
              case measure => simp [intOf]; omega
          · have hcut := Hcut.out
            rw [if_neg y3, Option.map_some] at hcut
            have Hcut := Lib.hid hcut
            clear hcut
            cases hl : c.locked
            · by_cases hlen : c.vers.length = j + 1
              · have htv0 : trimV c.vers a = [] := by rw [Htv.out]; exact List.drop_eq_nil_of_le (by omega)
                have y8 : ((c.vers.length - (j + 1) : Nat) : Int) = 0 := by omega
                rw [hl] at b2
                have htc : trimC a c = [] := by unfold trimC keptB; rw [htv0]; simp [hl]
                have Htc := Lib.hid htc
                clear htc hl htv0 hlen
                go_wp2
                go_roundw
                case rel =>
                  have hS9 : Same (fun q => q ≠ wr.heap.size) w7 (w7.setCell ⟨wr.heap.size, 1, none⟩ (.slice (some (ad2.add ((j + 1) * 4))) (c.vers.length - (j + 1)) (c5' - (j + 1)))) := (Same.refl _ _).setCell (fun _ h => h rfl) _
                  have hS10 : Same (fun _ => True) wr (w7.setCell ⟨wr.heap.size, 1, none⟩ (.slice (some (ad2.add ((j + 1) * 4))) (c.vers.length - (j + 1)) (c5' - (j + 1)))) := HS8.out.trans' hS9 fun q hq _ => by omega
                  refine ⟨k + 1, by go_num, by omega, ?_, Hr1.out.keep hS10 trivial, HS.out.trans hS10⟩
                  rw [Htk.out, Htc.out]
                  simpa using Hown.out.keepAll hS10
                case measure => simp [intOf]; omega
              · rw [hl] at b2
                have htc : trimC a c = [{ c with vers := c.vers.drop (j + 1) }] := by
                  unfold trimC keptB
                  rw [Htv.out, if_pos]
                  simp only [hl, Bool.false_or, Bool.not_eq_true', List.isEmpty_eq_false_iff]
                  intro e
                  have := congrArg List.length e
                  simp at this
                  omega
                have Htc := Lib.hid htc
                have y7 : (0 : Int) < ((c.vers.length - (j + 1) : Nat) : Int) := by omega
                clear htc
                have hcell : (#[.string (str c.key), (.slice (some (ad2.add ((j + 1) * 4))) (c.vers.length - (j + 1)) (c5' - (j + 1))), .bool false, .int .i64 c.lock.by_.node, .int .i64 c.lock.by_.life, .int .i64 c.lock.by_.seq, .int .i64 c.lock.by_.attempt, .int .i64 c.lock.home, .int .i64 c.lock.at_.wall, .int .i64 c.lock.at_.tie, .bool c.lock.drop, .string (str c.lock.data)] : Array Value) = (celCs ((.slice (some (ad2.add ((j + 1) * 4))) (c.vers.length - (j + 1)) (c5' - (j + 1))), { c with vers := c.vers.drop (j + 1) })).toArray := by simp [celCs, lckCs, hl]
                have Hcell := Lib.hid hcell
                clear hcell hl
                go_wp2_with (at_builtin; refine stopAt ?_)
                unfold Hid
                rw [Hcell.out]
                have hS9 : Same (fun q => q ≠ wr.heap.size) w7 (w7.setCell ⟨wr.heap.size, 1, none⟩ (.slice (some (ad2.add ((j + 1) * 4))) (c.vers.length - (j + 1)) (c5' - (j + 1)))) := (Same.refl _ _).setCell (fun _ h => h rfl) _
                have hS10 : Same (fun _ => True) wr (w7.setCell ⟨wr.heap.size, 1, none⟩ (.slice (some (ad2.add ((j + 1) * 4))) (c.vers.length - (j + 1)) (c5' - (j + 1)))) := HS8.out.trans' hS9 fun q hq _ => by omega
                have HS10 := Lib.hid hS10
                refine wpList_appC (w := w7.setCell ⟨wr.heap.size, 1, none⟩ (.slice (some (ad2.add ((j + 1) * 4))) (c.vers.length - (j + 1)) (c5' - (j + 1)))) (c := { c with vers := c.vers.drop (j + 1) }) (B := w.heap.size + 1) rfl (.tmp 44) (.tmp 46) rfl rfl rfl (by first | rfl | simp) (Hown.out.keepAll hS10) ((Hcut.out.keep (hS9.mono fun q _ hq => by omega)).mono fun q _ hq => by omega) (by have := hS10.size; omega) (by have := Htl.out; omega) ?_
                intro v' w9 hown9 hS11
                have Hown9 := Lib.hid hown9
                have HS11 := Lib.hid hS11
                clear hown9 hS9 hS10 hS11
                go_wp2
                go_roundw
                case rel =>
                  refine ⟨k + 1, by go_num, by omega, ?_, (Hr1.out.keep HS10.out trivial).keep HS11.out (by omega), (HS.out.trans HS10.out).trans' HS11.out fun q hq _ => by omega⟩
                  rw [Htk.out, Htc.out]
                  exact Hown9.out
                case measure => simp [intOf]; omega
            · rw [hl] at b2
              have htc : trimC a c = [{ c with vers := c.vers.drop (j + 1) }] := by
                unfold trimC keptB
                rw [Htv.out, if_pos]
                simp [hl]
              have Htc := Lib.hid htc
              clear htc
              have hcell : (#[.string (str c.key), (.slice (some (ad2.add ((j + 1) * 4))) (c.vers.length - (j + 1)) (c5' - (j + 1))), .bool true, .int .i64 c.lock.by_.node, .int .i64 c.lock.by_.life, .int .i64 c.lock.by_.seq, .int .i64 c.lock.by_.attempt, .int .i64 c.lock.home, .int .i64 c.lock.at_.wall, .int .i64 c.lock.at_.tie, .bool c.lock.drop, .string (str c.lock.data)] : Array Value) = (celCs ((.slice (some (ad2.add ((j + 1) * 4))) (c.vers.length - (j + 1)) (c5' - (j + 1))), { c with vers := c.vers.drop (j + 1) })).toArray := by simp [celCs, lckCs, hl]
              have Hcell := Lib.hid hcell
              clear hcell hl
              go_wp2_with (at_builtin; refine stopAt ?_)
              unfold Hid
              rw [Hcell.out]
              have hS9 : Same (fun q => q ≠ wr.heap.size) w7 (w7.setCell ⟨wr.heap.size, 1, none⟩ (.slice (some (ad2.add ((j + 1) * 4))) (c.vers.length - (j + 1)) (c5' - (j + 1)))) := (Same.refl _ _).setCell (fun _ h => h rfl) _
              have hS10 : Same (fun _ => True) wr (w7.setCell ⟨wr.heap.size, 1, none⟩ (.slice (some (ad2.add ((j + 1) * 4))) (c.vers.length - (j + 1)) (c5' - (j + 1)))) := HS8.out.trans' hS9 fun q hq _ => by omega
              have HS10 := Lib.hid hS10
              refine wpList_appC (w := w7.setCell ⟨wr.heap.size, 1, none⟩ (.slice (some (ad2.add ((j + 1) * 4))) (c.vers.length - (j + 1)) (c5' - (j + 1)))) (c := { c with vers := c.vers.drop (j + 1) }) (B := w.heap.size + 1) rfl (.tmp 44) (.tmp 46) rfl rfl rfl (by first | rfl | simp) (Hown.out.keepAll hS10) ((Hcut.out.keep (hS9.mono fun q _ hq => by omega)).mono fun q _ hq => by omega) (by have := hS10.size; omega) (by have := Htl.out; omega) ?_
              intro v' w9 hown9 hS11
              have Hown9 := Lib.hid hown9
              have HS11 := Lib.hid hS11
              clear hown9 hS9 hS10 hS11
              go_wp2
              go_roundw
              case rel =>
                refine ⟨k + 1, by go_num, by omega, ?_, (Hr1.out.keep HS10.out trivial).keep HS11.out (by omega), (HS.out.trans HS10.out).trans' HS11.out fun q hq _ => by omega⟩
                rw [Htk.out, Htc.out]
                exact Hown9.out
              case measure => simp [intOf]; omega
    · obtain rfl : k = cs.length := by omega
      rw [List.take_length] at Hown
      clear hS hown
      go_wp2
      go_ret
      exact ⟨_, rfl, Hown.out.lower (by omega), HS.out⟩
end Go.Proofs.Ytoldelocfmpccaa
