/-
  MvccScans: for all operations, a scan is what Get tells of each key within its span, rising: the walk.
-/
import Derived.Test.YtoldelocfmpccaaMvScW
set_option linter.unusedSimpArgs false
set_option linter.unusedVariables false
namespace Go.Proofs.Ytoldelocfmpccaa
open Go.RowKit

set_option maxRecDepth 100000 in
set_option maxHeartbeats 4000000 in
theorem scans_walk (v : Value) (ops : List OpT) (lo hi : List UInt8) (a : St) (w : World) (hv : OpsR w (fun q => q < w.heap.size) v ops) (hk1 : lo.length ≤ maxLen) (hk2 : hi.length ≤ maxLen) :
    Calls Try.prog 8 #[v, .agg #[.string (str lo), .string (str hi)], stV a] w fun e w' => e = .returned (.bool true) ∧ Same (fun _ => True) w w' := by
  have hv' := hv
  obtain ⟨A, c, rfl, hc, hm, -⟩ := hv'
  have Hops := Lib.hid hv
  have r0 := (Row.new w 53 [.string (str lo), .string (str hi)]).keep ((Same.refl (fun _ => True) _).alloc (.cells (stCs a).toArray 28)) trivial
  have r1 := Row.new (w.alloc (.cells ([.string (str lo), .string (str hi)]).toArray 53)) 28 (stCs a)
  have hS0 := ((Same.refl (fun _ => True) w).alloc (.cells ([.string (str lo), .string (str hi)]).toArray 53)).alloc (.cells (stCs a).toArray 28)
  rw [World.size_alloc] at r1
  have R0 := Lib.hid r0
  have R1 := Lib.hid r1
  have HS0 := Lib.hid hS0
  unfold maxLen at hm hk1 hk2
  clear hv r0 r1 hS0
  go_enter Try.func8, Try.ntmps8
  go_wp2_with (go_at_call 21; refine stopAt ?_)
  unfold Hid
  refine (begun_any _).mono ?_
  rintro e w1 ⟨rfl, hS1⟩
  have HS1 := Lib.hid (HS0.out.trans hS1)
  have RSp := Lib.hid (R0.out.keep hS1 trivial)
  have RAt := Lib.hid (R1.out.keep hS1 trivial)
  clear hS1 R0 R1 HS0
  have z1 := RAt.out.lt
  obtain ⟨B, hBe⟩ : ∃ B, B = w1.heap.size := ⟨_, rfl⟩
  have HBe := Lib.hid hBe
  clear hBe
  have rs_ := RSp.out.keep (Same.refl (fun _ => True) w1) trivial
  have ra_ := RAt.out.keep (Same.refl (fun _ => True) w1) trivial
  have s0 : w1.cell? ⟨w.heap.size, 0, none⟩ = some (.string (str lo)) := rs_.cell 0
  have s1 : w1.cell? ⟨w.heap.size, 1, none⟩ = some (.string (str hi)) := rs_.cell 1
  have a0 : w1.cell? ⟨w.heap.size + 1, 0, none⟩ = some (.int .i64 a.wall) := ra_.cell 0
  have a1 : w1.cell? ⟨w.heap.size + 1, 1, none⟩ = some (.int .i64 a.tie) := ra_.cell 1
  have zs := ra_.lt
  clear rs_ ra_
  go_wp2_with (go_at_call 22; refine stopAt ?_)
  unfold Hid
  refine (light_any (.slice A ops.length c) ops 60 _ w1 (SlOf.keep Hops.out (HS1.out.mono fun _ _ _ => trivial)) (by omega)).mono ?_
  rintro e w2 ⟨bl, rfl, hbl, rfl⟩
  cases bl
  · clear hbl
    go_wp2
    go_ret
    exact ⟨rfl, HS1.out⟩
  have hn := hbl rfl
  clear hbl
  have z2 : (str lo).size = lo.length := str_size _
  have z3 : (str hi).size = hi.length := str_size _
  go_wp2
  all_goals try (go_ret; exact ⟨rfl, HS1.out⟩)
  clear s0 s1 zs a0 a1
  go_loopw [7, 8] (fun v i wr => ∃ k : Nat, i = .int .i64 k ∧ k ≤ ops.length ∧ OwnC wr B v (runF (ops.take k)) ∧ Same (fun _ => True) w1 wr) (fun _ i _ => ops.length - (intOf i).toNat)
  case atStart => exact ⟨0, rfl, Nat.zero_le _, OwnC.nil _ _, Same.refl _ _⟩
  case round =>
    obtain ⟨k, rfl, hk, hown, hS⟩ := hrel
    have hf := run_fine ops k hk
    obtain ⟨Al, nl, cl, rfl, hl1, hl2⟩ := hown.form3
    have HS := Lib.hid hS
    have Hown := Lib.hid hown
    unfold maxLen at hl2
    by_cases hlt : k < ops.length
    · obtain ⟨ad, rfl, -, -, c0, hcs⟩ := ops_at (SlOf.keep Hops.out ((HS1.out.trans hS).mono fun _ _ _ => trivial)) hlt
      have x1 : (0 : Int) ≤ (k : Int) := by omega
      have x2 : (k : Int) < (ops.length : Int) := by omega
      have c1 := hcs 1 (by omega) (by omega)
      have c2 := hcs 2 (by omega) (by omega)
      have c3 := hcs 3 (by omega) (by omega)
      have c4 := hcs 4 (by omega) (by omega)
      have c5 := hcs 5 (by omega) (by omega)
      have c6 := hcs 6 (by omega) (by omega)
      have c7 := hcs 7 (by omega) (by omega)
      have c8 := hcs 8 (by omega) (by omega)
      have c9 := hcs 9 (by omega) (by omega)
      have c10 := hcs 10 (by omega) (by omega)
      have c11 := hcs 11 (by omega) (by omega)
      have c12 := hcs 12 (by omega) (by omega)
      have c13 := hcs 13 (by omega) (by omega)
      simp only [opCs, List.getElem?_cons_zero, List.getElem?_cons_succ] at c1 c2 c3 c4 c5 c6 c7 c8 c9 c10 c11 c12 c13
      have hst := runF_step hlt
      have gd := do_any (.slice Al nl cl) (runF (ops.take k)) ops[k] _ wr hown.reads hf.good (hf.len (by omega)) (hf.vers (by omega))
      rw [← hst] at gd
      have Hst := Lib.hid hst
      have hB := hS.size
      clear hcs hown hS hf hst
      generalize ops[k] = o at *
      go_wp2_with (go_at_call 23; refine stopAt ?_)
      unfold Hid
      refine gd.mono ?_
      rintro e w5 ⟨v1, v2, rfl, hown5, -, hS5⟩
      have Hown5 := Lib.hid (hown5.lower (B' := B) (by rw [HBe.out]; exact hB))
      have HS5 := Lib.hid (HS.out.trans hS5)
      clear hown5 hS5 gd c0 c1 c2 c3 c4 c5 c6 c7 c8 c9 c10 c11 c12 c13
      go_wp2
      go_roundw
      case rel => exact ⟨k + 1, by go_num, by omega, Hown5.out, HS5.out⟩
      case measure => simp [intOf]; omega
    · obtain rfl : k = ops.length := by omega
      rw [List.take_length] at Hown hf
      obtain ⟨cs, hcs⟩ : ∃ cs, cs = runF ops := ⟨_, rfl⟩
      rw [← hcs] at Hown hf
      have Hf := Lib.hid hf
      clear hown hf hcs
      have rs_ := RSp.out.keep HS.out trivial
      have ra_ := RAt.out.keep HS.out trivial
      have s0 : wr.cell? ⟨w.heap.size, 0, none⟩ = some (.string (str lo)) := rs_.cell 0
      have s1 : wr.cell? ⟨w.heap.size, 1, none⟩ = some (.string (str hi)) := rs_.cell 1
      have a0 : wr.cell? ⟨w.heap.size + 1, 0, none⟩ = some (.int .i64 a.wall) := ra_.cell 0
      have a1 : wr.cell? ⟨w.heap.size + 1, 1, none⟩ = some (.int .i64 a.tie) := ra_.cell 1
      have zs := ra_.lt
      clear rs_ ra_
      clear hS
      have hcl : cs.length ≤ 60 := by have := Hf.out.few.1; omega
      obtain ⟨L, hL⟩ : ∃ L, L = pairsF a (withinF cs lo hi) := ⟨_, rfl⟩
      have hLn : L.length ≤ cs.length := by rw [hL]; exact pairs_few _ _ _ _
      have HL := Lib.hid hL
      clear hL
      go_wp2_with (go_at_call 33; refine stopAt ?_)
      unfold Hid
      have gx := mvscan_any (.slice Al nl cl) cs lo hi a 1000 (fun k => k < wr.heap.size) wr (Hown.out.reads.mono fun k hk _ => hk) (fun k h => h) Hf.out.good.sorted (by have := Hf.out.len (by omega); omega)
      rw [scan_small lo hi a (by omega), ← HL.out] at gx
      refine gx.mono ?_
      rintro e w3 ⟨vx, rfl, hx, hS3⟩
      have HS3 := Lib.hid (HS.out.trans hS3)
      have Hx := Lib.hid hx
      have Hc3 := Lib.hid (Hown.out.keepAll hS3)
      clear hS3 hx gx
      obtain ⟨Ax, cx, rfl, hx1, hx2⟩ := OwnP.form Hx.out
      unfold maxLen at hx2
      obtain ⟨Ac, cp, hcf, hcp1, hcp2⟩ := Hc3.out.form
      obtain ⟨rfl, rfl, rfl⟩ : Al = Ac ∧ nl = cs.length ∧ cl = cp := by injection hcf with h1 h2 h3; exact ⟨h1, h2, h3⟩
      clear hcf hcp2
      clear s0 s1 zs a0 a1
      go_wp2
      go_loopw [11, 12] (fun n i wr => ∃ k m : Nat, i = .int .i64 k ∧ n = .int .i64 m ∧ k ≤ cs.length ∧ m = (pairsF a (withinF (cs.take k) lo hi)).length ∧ Same (fun _ => True) w3 wr) (fun _ i _ => cs.length - (intOf i).toNat)
      case atStart => exact ⟨0, 0, rfl, rfl, Nat.zero_le _, by simp [withinF, pairsF], Same.refl _ _⟩
      case round =>
        obtain ⟨k, m, rfl, rfl, hk, hmm, hS4⟩ := hrel
        have HS4 := Lib.hid (HS3.out.trans hS4)
        have Hs4 := Lib.hid hS4
        have hc4 := Hc3.out.keepAll hS4
        have hx4 := Hx.out.keepAll hS4
        obtain ⟨wo, rfl⟩ : ∃ wo : World, wo = wr := ⟨_, rfl⟩
        have hmL : m ≤ L.length := by
          have e := within_pre cs lo hi a k
          rw [HL.out, hmm, e]; simp
        clear hS4
        by_cases hlt : k < cs.length
        · obtain ⟨ad, u, rfl, -, -, c0, -⟩ := CelR.cells12 hc4.reads hlt
          have hst := within_step lo hi a hlt
          have hgo := get_own Hf.out.good hlt a
          obtain ⟨⟨d, b⟩, htl⟩ : ∃ r, r = tellsF cs[k].vers a := ⟨_, rfl⟩
          rw [← htl] at hgo
          have hhit := fun h1 (hb : b = true) => scan_hit (L := cs) (d := d) HL.out hmm hlt h1 (by rw [← htl, hb])
          have hpf : pairF a cs[k] = if b then [(cs[k].key, d)] else [] := by unfold pairF; rw [← htl]
          rw [hpf] at hst
          have hK : inB lo hi cs[k].key = (!ltB cs[k].key lo && ltB cs[k].key hi) := rfl
          have q1 := ltB_str cs[k].key lo
          have q2 := ltB_str cs[k].key hi
          have gg : ∀ W, Same (fun _ => True) wo W → Calls Try.prog 27 #[.slice (some ad) cs.length cl, .string (str cs[k].key), stV a] W (TellP (d, b) W) := fun W hW => by
            rw [← hgo]
            exact mvget_any _ cs cs[k].key a _ W (hc4.keepAll hW).reads Hf.out.good.sorted (by omega)
          have x1 : (0 : Int) ≤ (k : Int) := by omega
          have x2 : (k : Int) < (cs.length : Int) := by omega
          clear hpf htl hgo
          generalize hcc : cs[k] = c at *
          have rs_ := RSp.out.keep HS4.out trivial
          have ra_ := RAt.out.keep HS4.out trivial
          have s0 : wo.cell? ⟨w.heap.size, 0, none⟩ = some (.string (str lo)) := rs_.cell 0
          have s1 : wo.cell? ⟨w.heap.size, 1, none⟩ = some (.string (str hi)) := rs_.cell 1
          have a0 : wo.cell? ⟨w.heap.size + 1, 0, none⟩ = some (.int .i64 a.wall) := ra_.cell 0
          have a1 : wo.cell? ⟨w.heap.size + 1, 1, none⟩ = some (.int .i64 a.tie) := ra_.cell 1
          have zs := ra_.lt
          clear rs_ ra_
          have Hx4 := Lib.hid hx4
          have Hhit := Lib.hid hhit
          have Hst := Lib.hid hst
          have HK := Lib.hid hK
          have Hcc := Lib.hid hcc
          have Hmm := Lib.hid hmm
          clear hhit hst hK hx4 hc4 hmm hcc
          cases b
          · clear q1 q2
            go_wp2
            refine wp_region_eq_lit (vs := [(.slice (some ad) cs.length cl), (.slice (some ad) cs.length cl), (.int .i64 k), (.pointer (some (ad.add (k * 12)))), (.pointer (some (ad.add (k * 12)))), (.string (str c.key)), (stV a), (.tuple #[.string (str d), .bool false]), (.tuple #[.string (str d), .bool false]), (.string (str d)), (.bool false), (.string (str d)), (.bool false)]) (by kernel_rfl) (by kernel_rfl) rfl rfl ?_ ?_
            · refine ⟨?_, ?_, ?_, ?_, ?_, ?_, ?_, ?_, ?_, ?_, ?_, ?_, ?_, trivial⟩
              · intro ac wc hs hd hz hf hw K hK
                have e0 : ac.eval (.tmp 7) = (.slice (some ad) cs.length cl) := hf 7 rfl
                clear hd hz hf hw
                simp only [Region.wanted, if_true, Oper.wp, execOp, resolve, List.map_toArray, List.map_cons, List.map_nil, Option.map_some, Option.map_none, e0]
                go_simp
                exact hK _ _ rfl (Same.refl _ _)
              · intro ac wc hs hd hz hf hw K hK
                have e0 : ac.eval (.tmp 7) = (.slice (some ad) cs.length cl) := hf 7 rfl
                clear hd hz hf hw
                simp only [Region.wanted, if_true, Oper.wp, execOp, resolve, List.map_toArray, List.map_cons, List.map_nil, Option.map_some, Option.map_none, e0]
                go_simp
                exact hK _ _ rfl (Same.refl _ _)
              · intro ac wc hs hd hz hf hw K hK
                have e0 : ac.eval (.tmp 12) = (.int .i64 k) := hf 12 rfl
                clear hd hz hf hw
                simp only [Region.wanted, if_true, Oper.wp, execOp, resolve, List.map_toArray, List.map_cons, List.map_nil, Option.map_some, Option.map_none, e0]
                go_simp
                exact hK _ _ rfl (Same.refl _ _)
              · intro ac wc hs hd hz hf hw K hK
                have e0 : ac.eval (.tmp 66) = (.slice (some ad) cs.length cl) := hw 1 rfl
                have e1 : ac.eval (.tmp 67) = (.int .i64 k) := hw 2 rfl
                clear hd hz hf hw
                simp only [Region.wanted, if_true, Oper.wp, execOp, resolve, List.map_toArray, List.map_cons, List.map_nil, Option.map_some, Option.map_none, e0, e1]
                go_simp
                exact hK _ _ rfl (Same.refl _ _)
              · intro ac wc hs hd hz hf hw K hK
                have e0 : ac.eval (.tmp 68) = (.pointer (some (ad.add (k * 12)))) := hw 3 rfl
                clear hd hz hf hw
                simp only [Region.wanted, if_true, Oper.wp, execOp, resolve, List.map_toArray, List.map_cons, List.map_nil, Option.map_some, Option.map_none, e0]
                go_simp
                exact hK _ _ rfl (Same.refl _ _)
              · intro ac wc hs hd hz hf hw K hK
                have e0 : ac.eval (.tmp 69) = (.pointer (some (ad.add (k * 12)))) := hw 4 rfl
                have m0 : wc.cell? (ad.add (k * 12)) = some (.string (str c.key)) := hs.cell (p := (ad.add (k * 12))) trivial c0
                clear hd hz hf hw
                simp only [Region.wanted, if_true, Oper.wp, execOp, resolve, List.map_toArray, List.map_cons, List.map_nil, Option.map_some, Option.map_none, e0]
                go_simp
                exact hK _ _ rfl (Same.refl _ _)
              · intro ac wc hs hd hz hf hw K hK
                have e0 : ac.eval (.tmp 5) = (.pointer (some ⟨w.heap.size + 1, 0, none⟩)) := hf 5 rfl
                have m0 : wc.cell? ⟨w.heap.size + 1, 0, none⟩ = some (.int .i64 a.wall) := hs.cell (p := ⟨w.heap.size + 1, 0, none⟩) trivial a0
                have m1 : wc.cell? ⟨w.heap.size + 1, 1, none⟩ = some (.int .i64 a.tie) := hs.cell (p := ⟨w.heap.size + 1, 1, none⟩) trivial a1
                clear hd hz hf hw
                simp only [Region.wanted, if_true, Oper.wp, execOp, resolve, List.map_toArray, List.map_cons, List.map_nil, Option.map_some, Option.map_none, e0]
                go_simp
                exact hK _ _ rfl (Same.refl _ _)
              · intro ac wc hs hd hz hf hw K hK
                have e0 : ac.eval (.tmp 65) = (.slice (some ad) cs.length cl) := hw 0 rfl
                have e1 : ac.eval (.tmp 70) = (.string (str c.key)) := hw 5 rfl
                have e2 : ac.eval (.tmp 71) = (stV a) := hw 6 rfl
                clear hd hz hf hw
                simp only [Region.wanted, if_true, Oper.wp, execOp, resolve, List.map_toArray, List.map_cons, List.map_nil, Option.map_some, Option.map_none, e0, e1, e2]
                go_simp
                refine (gg wc hs).mono ?_
                rintro e wd ⟨rfl, hs2⟩
                exact hK _ _ rfl hs2
              · intro ac wc hs hd hz hf hw K hK
                have e0 : ac.eval (.tmp 72) = (.tuple #[.string (str d), .bool false]) := hw 7 rfl
                clear hd hz hf hw
                simp only [Region.wanted, if_true, Oper.wp, execOp, resolve, List.map_toArray, List.map_cons, List.map_nil, Option.map_some, Option.map_none, e0]
                go_simp
                exact hK _ _ rfl (Same.refl _ _)
              · intro ac wc hs hd hz hf hw K hK
                have e0 : ac.eval (.tmp 64) = (.tuple #[.string (str d), .bool false]) := hw 8 rfl
                clear hd hz hf hw
                simp only [Region.wanted, if_true, Oper.wp, execOp, resolve, List.map_toArray, List.map_cons, List.map_nil, Option.map_some, Option.map_none, e0]
                go_simp
                exact hK _ _ rfl (Same.refl _ _)
              · intro ac wc hs hd hz hf hw K hK
                have e0 : ac.eval (.tmp 64) = (.tuple #[.string (str d), .bool false]) := hw 8 rfl
                clear hd hz hf hw
                simp only [Region.wanted, if_true, Oper.wp, execOp, resolve, List.map_toArray, List.map_cons, List.map_nil, Option.map_some, Option.map_none, e0]
                go_simp
                exact hK _ _ rfl (Same.refl _ _)
              · intro ac wc hs hd hz hf hw K hK
                have e0 : ac.eval (.tmp 73) = (.string (str d)) := hw 9 rfl
                clear hd hz hf hw
                simp only [Region.wanted, if_true, Oper.wp, execOp, resolve, List.map_toArray, List.map_cons, List.map_nil, Option.map_some, Option.map_none, e0]
                go_simp
                exact hK _ _ rfl (Same.refl _ _)
              · intro ac wc hs hd hz hf hw K hK
                have e0 : ac.eval (.tmp 74) = (.bool false) := hw 10 rfl
                clear hd hz hf hw
                simp only [Region.wanted, if_true, Oper.wp, execOp, resolve, List.map_toArray, List.map_cons, List.map_nil, Option.map_some, Option.map_none, e0]
                go_simp
                exact hK _ _ rfl (Same.refl _ _)
            · intro wR hsR
              simp only [putAll, Act.put, List.setIfInBounds_toArray, List.set_cons_succ, List.set_cons_zero]
              have d0 := hsR.cell (p := (ad.add (k * 12))) trivial c0
              have Hs5 := Lib.hid (Hs4.out.trans hsR)
              clear c0 gg
              clear s0 s1 zs a0 a1
              have rs_ := RSp.out.keep (HS4.out.trans hsR) trivial
              have ra_ := RAt.out.keep (HS4.out.trans hsR) trivial
              have s0 : wR.cell? ⟨w.heap.size, 0, none⟩ = some (.string (str lo)) := rs_.cell 0
              have s1 : wR.cell? ⟨w.heap.size, 1, none⟩ = some (.string (str hi)) := rs_.cell 1
              have a0 : wR.cell? ⟨w.heap.size + 1, 0, none⟩ = some (.int .i64 a.wall) := ra_.cell 0
              have a1 : wR.cell? ⟨w.heap.size + 1, 1, none⟩ = some (.int .i64 a.tie) := ra_.cell 1
              have zs := ra_.lt
              clear rs_ ra_
              go_wp2
              go_quiet (fail)
              go_wp2
              go_roundw
              case rel => exact ⟨k + 1, m, by go_num, rfl, by omega, by rw [Hst.out]; simpa using Hmm.out, by first | exact Hs5.out.drew | exact Hs5.out.drewN _⟩
              case measure => simp [intOf]; omega
          · go_wp2
            refine wp_region_eq_lit (vs := [(.slice (some ad) cs.length cl), (.slice (some ad) cs.length cl), (.int .i64 k), (.pointer (some (ad.add (k * 12)))), (.pointer (some (ad.add (k * 12)))), (.string (str c.key)), (stV a), (.tuple #[.string (str d), .bool true]), (.tuple #[.string (str d), .bool true]), (.string (str d)), (.bool true), (.string (str d)), (.bool true)]) (by kernel_rfl) (by kernel_rfl) rfl rfl ?_ ?_
            · refine ⟨?_, ?_, ?_, ?_, ?_, ?_, ?_, ?_, ?_, ?_, ?_, ?_, ?_, trivial⟩
              · intro ac wc hs hd hz hf hw K hK
                have e0 : ac.eval (.tmp 7) = (.slice (some ad) cs.length cl) := hf 7 rfl
                clear hd hz hf hw
                simp only [Region.wanted, if_true, Oper.wp, execOp, resolve, List.map_toArray, List.map_cons, List.map_nil, Option.map_some, Option.map_none, e0]
                go_simp
                exact hK _ _ rfl (Same.refl _ _)
              · intro ac wc hs hd hz hf hw K hK
                have e0 : ac.eval (.tmp 7) = (.slice (some ad) cs.length cl) := hf 7 rfl
                clear hd hz hf hw
                simp only [Region.wanted, if_true, Oper.wp, execOp, resolve, List.map_toArray, List.map_cons, List.map_nil, Option.map_some, Option.map_none, e0]
                go_simp
                exact hK _ _ rfl (Same.refl _ _)
              · intro ac wc hs hd hz hf hw K hK
                have e0 : ac.eval (.tmp 12) = (.int .i64 k) := hf 12 rfl
                clear hd hz hf hw
                simp only [Region.wanted, if_true, Oper.wp, execOp, resolve, List.map_toArray, List.map_cons, List.map_nil, Option.map_some, Option.map_none, e0]
                go_simp
                exact hK _ _ rfl (Same.refl _ _)
              · intro ac wc hs hd hz hf hw K hK
                have e0 : ac.eval (.tmp 66) = (.slice (some ad) cs.length cl) := hw 1 rfl
                have e1 : ac.eval (.tmp 67) = (.int .i64 k) := hw 2 rfl
                clear hd hz hf hw
                simp only [Region.wanted, if_true, Oper.wp, execOp, resolve, List.map_toArray, List.map_cons, List.map_nil, Option.map_some, Option.map_none, e0, e1]
                go_simp
                exact hK _ _ rfl (Same.refl _ _)
              · intro ac wc hs hd hz hf hw K hK
                have e0 : ac.eval (.tmp 68) = (.pointer (some (ad.add (k * 12)))) := hw 3 rfl
                clear hd hz hf hw
                simp only [Region.wanted, if_true, Oper.wp, execOp, resolve, List.map_toArray, List.map_cons, List.map_nil, Option.map_some, Option.map_none, e0]
                go_simp
                exact hK _ _ rfl (Same.refl _ _)
              · intro ac wc hs hd hz hf hw K hK
                have e0 : ac.eval (.tmp 69) = (.pointer (some (ad.add (k * 12)))) := hw 4 rfl
                have m0 : wc.cell? (ad.add (k * 12)) = some (.string (str c.key)) := hs.cell (p := (ad.add (k * 12))) trivial c0
                clear hd hz hf hw
                simp only [Region.wanted, if_true, Oper.wp, execOp, resolve, List.map_toArray, List.map_cons, List.map_nil, Option.map_some, Option.map_none, e0]
                go_simp
                exact hK _ _ rfl (Same.refl _ _)
              · intro ac wc hs hd hz hf hw K hK
                have e0 : ac.eval (.tmp 5) = (.pointer (some ⟨w.heap.size + 1, 0, none⟩)) := hf 5 rfl
                have m0 : wc.cell? ⟨w.heap.size + 1, 0, none⟩ = some (.int .i64 a.wall) := hs.cell (p := ⟨w.heap.size + 1, 0, none⟩) trivial a0
                have m1 : wc.cell? ⟨w.heap.size + 1, 1, none⟩ = some (.int .i64 a.tie) := hs.cell (p := ⟨w.heap.size + 1, 1, none⟩) trivial a1
                clear hd hz hf hw
                simp only [Region.wanted, if_true, Oper.wp, execOp, resolve, List.map_toArray, List.map_cons, List.map_nil, Option.map_some, Option.map_none, e0]
                go_simp
                exact hK _ _ rfl (Same.refl _ _)
              · intro ac wc hs hd hz hf hw K hK
                have e0 : ac.eval (.tmp 65) = (.slice (some ad) cs.length cl) := hw 0 rfl
                have e1 : ac.eval (.tmp 70) = (.string (str c.key)) := hw 5 rfl
                have e2 : ac.eval (.tmp 71) = (stV a) := hw 6 rfl
                clear hd hz hf hw
                simp only [Region.wanted, if_true, Oper.wp, execOp, resolve, List.map_toArray, List.map_cons, List.map_nil, Option.map_some, Option.map_none, e0, e1, e2]
                go_simp
                refine (gg wc hs).mono ?_
                rintro e wd ⟨rfl, hs2⟩
                exact hK _ _ rfl hs2
              · intro ac wc hs hd hz hf hw K hK
                have e0 : ac.eval (.tmp 72) = (.tuple #[.string (str d), .bool true]) := hw 7 rfl
                clear hd hz hf hw
                simp only [Region.wanted, if_true, Oper.wp, execOp, resolve, List.map_toArray, List.map_cons, List.map_nil, Option.map_some, Option.map_none, e0]
                go_simp
                exact hK _ _ rfl (Same.refl _ _)
              · intro ac wc hs hd hz hf hw K hK
                have e0 : ac.eval (.tmp 64) = (.tuple #[.string (str d), .bool true]) := hw 8 rfl
                clear hd hz hf hw
                simp only [Region.wanted, if_true, Oper.wp, execOp, resolve, List.map_toArray, List.map_cons, List.map_nil, Option.map_some, Option.map_none, e0]
                go_simp
                exact hK _ _ rfl (Same.refl _ _)
              · intro ac wc hs hd hz hf hw K hK
                have e0 : ac.eval (.tmp 64) = (.tuple #[.string (str d), .bool true]) := hw 8 rfl
                clear hd hz hf hw
                simp only [Region.wanted, if_true, Oper.wp, execOp, resolve, List.map_toArray, List.map_cons, List.map_nil, Option.map_some, Option.map_none, e0]
                go_simp
                exact hK _ _ rfl (Same.refl _ _)
              · intro ac wc hs hd hz hf hw K hK
                have e0 : ac.eval (.tmp 73) = (.string (str d)) := hw 9 rfl
                clear hd hz hf hw
                simp only [Region.wanted, if_true, Oper.wp, execOp, resolve, List.map_toArray, List.map_cons, List.map_nil, Option.map_some, Option.map_none, e0]
                go_simp
                exact hK _ _ rfl (Same.refl _ _)
              · intro ac wc hs hd hz hf hw K hK
                have e0 : ac.eval (.tmp 74) = (.bool true) := hw 10 rfl
                clear hd hz hf hw
                simp only [Region.wanted, if_true, Oper.wp, execOp, resolve, List.map_toArray, List.map_cons, List.map_nil, Option.map_some, Option.map_none, e0]
                go_simp
                exact hK _ _ rfl (Same.refl _ _)
            · intro wR hsR
              simp only [putAll, Act.put, List.setIfInBounds_toArray, List.set_cons_succ, List.set_cons_zero]
              have d0 := hsR.cell (p := (ad.add (k * 12))) trivial c0
              have Hs5 := Lib.hid (Hs4.out.trans hsR)
              have Hx5 := Lib.hid (Hx4.out.keepAll hsR)
              clear c0 gg
              clear s0 s1 zs a0 a1
              have rs_ := RSp.out.keep (HS4.out.trans hsR) trivial
              have ra_ := RAt.out.keep (HS4.out.trans hsR) trivial
              have s0 : wR.cell? ⟨w.heap.size, 0, none⟩ = some (.string (str lo)) := rs_.cell 0
              have s1 : wR.cell? ⟨w.heap.size, 1, none⟩ = some (.string (str hi)) := rs_.cell 1
              have a0 : wR.cell? ⟨w.heap.size + 1, 0, none⟩ = some (.int .i64 a.wall) := ra_.cell 0
              have a1 : wR.cell? ⟨w.heap.size + 1, 1, none⟩ = some (.int .i64 a.tie) := ra_.cell 1
              have zs := ra_.lt
              clear rs_ ra_
              clear hsR
              cases h1 : ltB c.key lo
              · cases h2 : ltB c.key hi
                · rw [h1] at q1 HK
                  rw [h2] at q2 HK
                  clear h1 h2
                  go_wp2
                  go_quiet (fail)
                  go_wp2
                  go_roundw
                  case rel => exact ⟨k + 1, m, by go_num, rfl, by omega, by rw [Hst.out, HK.out]; simpa using Hmm.out, by first | exact Hs5.out.drew | exact Hs5.out.drewN _⟩
                  case measure => simp [intOf]; omega
                · rw [h1] at q1 HK
                  rw [h2] at q2 HK
                  clear h1 h2
                  obtain ⟨hml, hP⟩ := Hhit.out HK.out trivial
                  obtain ⟨ax, rfl, -, p0, p1⟩ := OwnP.cells Hx5.out hml
                  rw [hP] at p0 p1
                  have y1 : (0 : Int) ≤ (m : Int) := by omega
                  have y2 : (m : Int) < (L.length : Int) := by omega
                  clear hP
                  go_wp2
                  go_quiet (fail)
                  go_wp2
                  go_quiet (fail)
                  go_wp2
                  go_roundw
                  case rel => exact ⟨k + 1, m + 1, by go_num, by go_num, by omega, by rw [Hst.out, HK.out]; simpa using Hmm.out, by first | exact Hs5.out.drew.drew | exact Hs5.out.drewN _ | exact (Hs5.out.drewN _).drewN _⟩
                  case measure => simp [intOf]; omega
              · rw [h1] at q1 HK
                clear h1 q2
                go_wp2
                go_quiet (fail)
                go_wp2
                go_roundw
                case rel => exact ⟨k + 1, m, by go_num, rfl, by omega, by rw [Hst.out, HK.out]; simpa using Hmm.out, by first | exact Hs5.out.drew | exact Hs5.out.drewN _⟩
                case measure => simp [intOf]; omega
        · obtain rfl : k = cs.length := by omega
          have hmE : m = L.length := by rw [hmm, HL.out, List.take_length]
          have Hc4 := Lib.hid hc4
          subst hmE
          clear hmm hc4 hx4
          have rs_ := RSp.out.keep HS4.out trivial
          have ra_ := RAt.out.keep HS4.out trivial
          have s0 : wo.cell? ⟨w.heap.size, 0, none⟩ = some (.string (str lo)) := rs_.cell 0
          have s1 : wo.cell? ⟨w.heap.size, 1, none⟩ = some (.string (str hi)) := rs_.cell 1
          have a0 : wo.cell? ⟨w.heap.size + 1, 0, none⟩ = some (.int .i64 a.wall) := ra_.cell 0
          have a1 : wo.cell? ⟨w.heap.size + 1, 1, none⟩ = some (.int .i64 a.tie) := ra_.cell 1
          have zs := ra_.lt
          clear rs_ ra_
          go_wp2_with (go_at_call 33; refine stopAt ?_)
          unfold Hid
          by_cases h0 : L.length = 0
          · have gs := mvscan_any (.slice Al cs.length cl) cs lo hi a ((L.length : Int) - 1) (fun k => k < wo.heap.size) wo (Hc4.out.reads.mono fun k hk _ => hk) (fun k h => h) Hf.out.good.sorted (by omega)
            obtain ⟨⟨P, E⟩, hP⟩ : ∃ r, r = scanF cs lo hi a ((L.length : Int) - 1) := ⟨_, rfl⟩
            rw [← hP] at gs
            clear hP
            obtain rfl : L = [] := List.eq_nil_of_length_eq_zero h0
            refine gs.mono ?_
            rintro e w6 ⟨v6, rfl, -, hS6⟩
            have HS6 := Lib.hid (HS4.out.trans hS6)
            clear hS6 gs
            clear s0 s1 zs a0 a1
            go_wp2
            go_ret
            exact ⟨rfl, HS1.out.trans HS6.out⟩
          · have gs := mvscan_any (.slice Al cs.length cl) cs lo hi a ((L.length : Int) - 1) (fun k => k < wo.heap.size) wo (Hc4.out.reads.mono fun k hk _ => hk) (fun k h => h) Hf.out.good.sorted (by omega)
            rw [scan_less lo hi a (by rw [HL.out]) (by rw [← HL.out]; omega)] at gs
            refine gs.mono ?_
            rintro e w6 ⟨v6, rfl, -, hS6⟩
            have HS6 := Lib.hid (HS4.out.trans hS6)
            clear hS6 gs
            clear s0 s1 zs a0 a1
            go_wp2
            go_ret
            exact ⟨rfl, HS1.out.trans HS6.out⟩
end Go.Proofs.Ytoldelocfmpccaa
