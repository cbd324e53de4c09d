/-
  One of the longer walks of mvcc (written by bundle.py out of: MvT). No condition.
-/
import Derived.Test.YtoldelocfmpccaaQ2
import Derived.Test.YtoldelocfmpccaaQ0
set_option linter.unusedSimpArgs false
set_option linter.unusedVariables false
namespace Go.Proofs.Ytoldelocfmpccaa
open Go.RowKit

theorem within_take {cs : List Cel} {lo hi : List UInt8} {k : Nat} (h : k < cs.length) : withinF (cs.take (k + 1)) lo hi = withinF (cs.take k) lo hi ++ (if inB lo hi cs[k].key then [cs[k]] else []) := by
  unfold withinF
  rw [List.take_succ_eq_append_getElem h, List.filter_append]
  congr 1
  rw [List.filter_cons]
  split <;> rfl
def gotF (a : St) (cs : List Cel) (lo hi : List UInt8) (k : Nat) : List (List UInt8 × List UInt8) := pairsF a (withinF (cs.take k) lo hi)
theorem got_le (a : St) (cs : List Cel) (lo hi : List UInt8) (k : Nat) : (gotF a cs lo hi k).length ≤ k :=
  Nat.le_trans (pairs_len _ _) (Nat.le_trans (List.length_filter_le _ _) (List.length_take_le _ _))
theorem got_out {a : St} {cs : List Cel} {lo hi : List UInt8} {k : Nat} (h : k < cs.length) (hi' : inB lo hi cs[k].key = false) : gotF a cs lo hi (k + 1) = gotF a cs lo hi k := by
  unfold gotF
  rw [within_take h, hi']
  simp
theorem got_in {a : St} {cs : List Cel} {lo hi : List UInt8} {k : Nat} (h : k < cs.length) (hi' : inB lo hi cs[k].key = true) : gotF a cs lo hi (k + 1) = gotF a cs lo hi k ++ pairF a cs[k] := by
  unfold gotF
  rw [within_take h, hi']
  unfold pairsF
  simp
/-- What the document's loop holds. -/
def RScanRel (a : St) (cs : List Cel) (lo hi : List UInt8) (k B : Nat) (l : Value) (w wr : World) : Prop :=
  k ≤ cs.length ∧ OwnP wr B l (gotF a cs lo hi k) ∧ w.heap.size + 2 ≤ B ∧ B ≤ wr.heap.size ∧ Row wr w.heap.size 53 [.string (str lo), .string (str hi)] ∧ Row wr (w.heap.size + 1) 28 (stCs a) ∧ Same (fun _ => True) w wr
theorem RScanRel.keep {a : St} {cs : List Cel} {lo hi : List UInt8} {k k' B : Nat} {l : Value} {w wr wr' : World} (h : RScanRel a cs lo hi k B l w wr) (hs : Same (fun _ => True) wr wr') (hk : k' ≤ cs.length) (hg : gotF a cs lo hi k' = gotF a cs lo hi k) : RScanRel a cs lo hi k' B l w wr' :=
  ⟨hk, by rw [hg]; exact h.2.1.keepAll hs, h.2.2.1, Nat.le_trans h.2.2.2.1 hs.size, h.2.2.2.2.1.keep hs trivial, h.2.2.2.2.2.1.keep hs trivial, h.2.2.2.2.2.2.trans hs⟩
set_option maxRecDepth 100000 in
set_option maxHeartbeats 2000000 in
theorem refscan_any (v : Value) (cs : List Cel) (lo hi : List UInt8) (a : St) (most : Int) (S : Nat → Prop) (w : World) (hv : CelR w S v cs) (hn : cs.length ≤ 1000000) :
    Calls Try.prog 54 #[v, .agg #[.string (str lo), .string (str hi)], stV a, .int .i64 most] w (ScanP (scanF cs lo hi a most) w) := by
  obtain ⟨A, cp, rfl, hc, hm⟩ := hv.form
  have Hv := Lib.hid hv
  unfold maxLen at hm
  have K : scanF cs lo hi a most = if max most 0 < ((gotF a cs lo hi cs.length).length : Int) then ([], 3) else (gotF a cs lo hi cs.length, 0) := by unfold scanF gotF; rw [List.take_length]
  have HK := Lib.hid K
  obtain ⟨W0, hW0⟩ : ∃ W0, W0 = (w.alloc (.cells #[.string (str lo), .string (str hi)] 53)).alloc (.cells (stCs a).toArray 28) := ⟨_, rfl⟩
  have hrel0 : RScanRel a cs lo hi 0 (w.heap.size + 2) (.slice none 0 0) w W0 := by
    have hr0 := (Row.new w 53 [.string (str lo), .string (str hi)]).keep ((Same.refl (fun _ => True) _).alloc (.cells (stCs a).toArray 28)) trivial
    have hr1 := Row.new (w.alloc (.cells #[.string (str lo), .string (str hi)] 53)) 28 (stCs a)
    rw [World.size_alloc] at hr1
    rw [hW0]
    exact ⟨Nat.zero_le _, by unfold gotF; simp [pairsF, withinF]; exact OwnR.nil _ _, Nat.le_refl _, by rw [World.size_alloc, World.size_alloc]; omega, hr0, hr1, ((Same.refl _ _).alloc _).alloc _⟩
  have Hrel0 := Lib.hid hrel0
  have HW0 := Lib.hid hW0
  clear K hv hW0 hrel0
  go_enter Try.func54, Try.ntmps54
  go_wp2
  have e0 := HW0.out
  simp only [stCs] at e0
  rw [← e0]
  clear e0
  go_loopw [10, 11, 12, 13] (fun l i _ _ wr => ∃ k : Nat, i = .int .i64 k ∧ RScanRel a cs lo hi k (w.heap.size + 2) l w wr) (fun _ i _ _ _ => cs.length - (intOf i).toNat)
  case atStart => exact ⟨0, rfl, Hrel0.out⟩
  case round =>
    obtain ⟨k, rfl, hrel⟩ := hrel
    have Hrel := Lib.hid hrel
    obtain ⟨hk, hown, hB1, hB2, hr0, hr1, hS⟩ := hrel
    have HS := Lib.hid hS
    have Hown := Lib.hid hown
    have Hr0 := Lib.hid hr0
    have Hr1 := Lib.hid hr1
    obtain ⟨Al, cl, rfl, hl1, hl2⟩ := hown.form
    unfold maxLen at hl2
    have t0 : wr.cell? ⟨w.heap.size, 0, none⟩ = some (.string (str lo)) := hr0.cell 0
    have t1 : wr.cell? ⟨w.heap.size, 1, none⟩ = some (.string (str hi)) := hr0.cell 1
    have hgl := got_le a cs lo hi k
    by_cases hlt : k < cs.length
    · obtain ⟨ad, u, rfl, -, hvr, c0, c1, c2, c3, c4, c5, c6, c7, c8, c9, c10, c11⟩ := CelR.cells12 (Hv.out.keepAll hS) hlt
      obtain ⟨Au, cu, rfl, -, -⟩ := hvr.form
      have x1 : (0 : Int) ≤ (k : Int) := by omega
      have x2 : (k : Int) < (cs.length : Int) := by omega
      have go := @got_out a cs lo hi k hlt
      have gn := @got_in a cs lo hi k hlt
      have Hvr := Lib.hid hvr
      clear hvr
      generalize cs[k] = c at *
      have gt := fun W hv' => refof_any (.slice Au c.vers.length cu) c a S W hv'
      have gi := fun W => refin_any c.key lo hi W
      clear hr0 hr1 hS hown
      cases hi' : inB lo hi c.key
      · rw [hi'] at gi
        have Hgo := Lib.hid (go hi')
        clear hi' go gn gt
        go_wp2
        refine wp_region_eq_lit (vs := [(.slice (some ad) cs.length cp), (.int .i64 k), (.pointer (some (ad.add (k * 12)))), (.pointer (some (ad.add (k * 12)))), (.string (str c.key)), (.agg #[.string (str lo), .string (str hi)]), (.bool false), (.bool true)]) (by kernel_rfl) (by kernel_rfl) rfl rfl ?_ ?_
        · refine ⟨?_, ?_, ?_, ?_, ?_, ?_, ?_, ?_, trivial⟩
          · intro ac wc hs hd hz hf hw K hK
            have e0 : ac.eval (.tmp 0) = (.slice (some ad) cs.length cp) := hf 0 rfl
            clear hd hz hf hw
            simp only [Region.wanted, if_true, Oper.wp, execOp, resolve, List.map_toArray, List.map_cons, List.map_nil, Option.map_some, Option.map_none, e0]
            go_simp
            exact hK _ _ rfl (Same.refl _ _)
          · intro ac wc hs hd hz hf hw K hK
            have e0 : ac.eval (.tmp 11) = (.int .i64 k) := hf 11 rfl
            clear hd hz hf hw
            simp only [Region.wanted, if_true, Oper.wp, execOp, resolve, List.map_toArray, List.map_cons, List.map_nil, Option.map_some, Option.map_none, e0]
            go_simp
            exact hK _ _ rfl (Same.refl _ _)
          · intro ac wc hs hd hz hf hw K hK
            have e0 : ac.eval (.tmp 20) = (.slice (some ad) cs.length cp) := hw 0 rfl
            have e1 : ac.eval (.tmp 21) = (.int .i64 k) := hw 1 rfl
            clear hd hz hf hw
            simp only [Region.wanted, if_true, Oper.wp, execOp, resolve, List.map_toArray, List.map_cons, List.map_nil, Option.map_some, Option.map_none, e0, e1]
            go_simp
            exact hK _ _ rfl (Same.refl _ _)
          · intro ac wc hs hd hz hf hw K hK
            have e0 : ac.eval (.tmp 22) = (.pointer (some (ad.add (k * 12)))) := hw 2 rfl
            clear hd hz hf hw
            simp only [Region.wanted, if_true, Oper.wp, execOp, resolve, List.map_toArray, List.map_cons, List.map_nil, Option.map_some, Option.map_none, e0]
            go_simp
            exact hK _ _ rfl (Same.refl _ _)
          · intro ac wc hs hd hz hf hw K hK
            have e0 : ac.eval (.tmp 23) = (.pointer (some (ad.add (k * 12)))) := hw 3 rfl
            have m0 : wc.cell? (ad.add (k * 12)) = some (.string (str c.key)) := hs.cell (p := (ad.add (k * 12))) trivial c0
            clear hd hz hf hw
            simp only [Region.wanted, if_true, Oper.wp, execOp, resolve, List.map_toArray, List.map_cons, List.map_nil, Option.map_some, Option.map_none, e0]
            go_simp
            exact hK _ _ rfl (Same.refl _ _)
          · intro ac wc hs hd hz hf hw K hK
            have e0 : ac.eval (.tmp 5) = (.pointer (some ⟨w.heap.size, 0, none⟩)) := hf 5 rfl
            have m0 : wc.cell? ⟨w.heap.size, 0, none⟩ = some (.string (str lo)) := hs.cell (p := ⟨w.heap.size, 0, none⟩) trivial t0
            have m1 : wc.cell? ⟨w.heap.size, 1, none⟩ = some (.string (str hi)) := hs.cell (p := ⟨w.heap.size, 1, none⟩) trivial t1
            clear hd hz hf hw
            simp only [Region.wanted, if_true, Oper.wp, execOp, resolve, List.map_toArray, List.map_cons, List.map_nil, Option.map_some, Option.map_none, e0]
            go_simp
            exact hK _ _ rfl (Same.refl _ _)
          · intro ac wc hs hd hz hf hw K hK
            have e0 : ac.eval (.tmp 24) = (.string (str c.key)) := hw 4 rfl
            have e1 : ac.eval (.tmp 25) = (.agg #[.string (str lo), .string (str hi)]) := hw 5 rfl
            clear hd hz hf hw
            simp only [Region.wanted, if_true, Oper.wp, execOp, resolve, List.map_toArray, List.map_cons, List.map_nil, Option.map_some, Option.map_none, e0, e1]
            go_simp
            refine (gi _).mono ?_
            rintro e wd ⟨rfl, hs2⟩
            exact hK _ _ rfl hs2
          · intro ac wc hs hd hz hf hw K hK
            have e0 : ac.eval (.tmp 26) = (.bool false) := hw 6 rfl
            clear hd hz hf hw
            simp only [Region.wanted, if_true, Oper.wp, execOp, resolve, List.map_toArray, List.map_cons, List.map_nil, Option.map_some, Option.map_none, e0]
            go_simp
            exact hK _ _ rfl (Same.refl _ _)
        · intro wR hsR
          simp only [putAll, Act.put, List.setIfInBounds_toArray, List.set_cons_succ, List.set_cons_zero]
          go_wp2
          go_roundw
          case rel => exact ⟨k + 1, by go_num, Hrel.out.keep hsR (by omega) Hgo.out⟩
          case measure => simp [intOf]; omega
      · rw [hi'] at gi
        have hgn := gn hi'
        clear hi' go gn
        obtain ⟨tb, td, htd⟩ : ∃ tb td, tellsF c.vers a = (td, tb) := ⟨_, _, rfl⟩
        rw [htd] at gt
        have hpf : pairF a c = if tb then [(c.key, td)] else [] := by unfold pairF; rw [htd]
        rw [hpf] at hgn
        have Hgn := Lib.hid hgn
        clear htd hpf hgn
        go_wp2
        refine wp_region_eq_lit (vs := [(.slice (some ad) cs.length cp), (.int .i64 k), (.pointer (some (ad.add (k * 12)))), (.pointer (some (ad.add (k * 12)))), (.string (str c.key)), (.agg #[.string (str lo), .string (str hi)]), (.bool true), (.bool false)]) (by kernel_rfl) (by kernel_rfl) rfl rfl ?_ ?_
        · refine ⟨?_, ?_, ?_, ?_, ?_, ?_, ?_, ?_, trivial⟩
          · intro ac wc hs hd hz hf hw K hK
            have e0 : ac.eval (.tmp 0) = (.slice (some ad) cs.length cp) := hf 0 rfl
            clear hd hz hf hw
            simp only [Region.wanted, if_true, Oper.wp, execOp, resolve, List.map_toArray, List.map_cons, List.map_nil, Option.map_some, Option.map_none, e0]
            go_simp
            exact hK _ _ rfl (Same.refl _ _)
          · intro ac wc hs hd hz hf hw K hK
            have e0 : ac.eval (.tmp 11) = (.int .i64 k) := hf 11 rfl
            clear hd hz hf hw
            simp only [Region.wanted, if_true, Oper.wp, execOp, resolve, List.map_toArray, List.map_cons, List.map_nil, Option.map_some, Option.map_none, e0]
            go_simp
            exact hK _ _ rfl (Same.refl _ _)
          · intro ac wc hs hd hz hf hw K hK
            have e0 : ac.eval (.tmp 20) = (.slice (some ad) cs.length cp) := hw 0 rfl
            have e1 : ac.eval (.tmp 21) = (.int .i64 k) := hw 1 rfl
            clear hd hz hf hw
            simp only [Region.wanted, if_true, Oper.wp, execOp, resolve, List.map_toArray, List.map_cons, List.map_nil, Option.map_some, Option.map_none, e0, e1]
            go_simp
            exact hK _ _ rfl (Same.refl _ _)
          · intro ac wc hs hd hz hf hw K hK
            have e0 : ac.eval (.tmp 22) = (.pointer (some (ad.add (k * 12)))) := hw 2 rfl
            clear hd hz hf hw
            simp only [Region.wanted, if_true, Oper.wp, execOp, resolve, List.map_toArray, List.map_cons, List.map_nil, Option.map_some, Option.map_none, e0]
            go_simp
            exact hK _ _ rfl (Same.refl _ _)
          · intro ac wc hs hd hz hf hw K hK
            have e0 : ac.eval (.tmp 23) = (.pointer (some (ad.add (k * 12)))) := hw 3 rfl
            have m0 : wc.cell? (ad.add (k * 12)) = some (.string (str c.key)) := hs.cell (p := (ad.add (k * 12))) trivial c0
            clear hd hz hf hw
            simp only [Region.wanted, if_true, Oper.wp, execOp, resolve, List.map_toArray, List.map_cons, List.map_nil, Option.map_some, Option.map_none, e0]
            go_simp
            exact hK _ _ rfl (Same.refl _ _)
          · intro ac wc hs hd hz hf hw K hK
            have e0 : ac.eval (.tmp 5) = (.pointer (some ⟨w.heap.size, 0, none⟩)) := hf 5 rfl
            have m0 : wc.cell? ⟨w.heap.size, 0, none⟩ = some (.string (str lo)) := hs.cell (p := ⟨w.heap.size, 0, none⟩) trivial t0
            have m1 : wc.cell? ⟨w.heap.size, 1, none⟩ = some (.string (str hi)) := hs.cell (p := ⟨w.heap.size, 1, none⟩) trivial t1
            clear hd hz hf hw
            simp only [Region.wanted, if_true, Oper.wp, execOp, resolve, List.map_toArray, List.map_cons, List.map_nil, Option.map_some, Option.map_none, e0]
            go_simp
            exact hK _ _ rfl (Same.refl _ _)
          · intro ac wc hs hd hz hf hw K hK
            have e0 : ac.eval (.tmp 24) = (.string (str c.key)) := hw 4 rfl
            have e1 : ac.eval (.tmp 25) = (.agg #[.string (str lo), .string (str hi)]) := hw 5 rfl
            clear hd hz hf hw
            simp only [Region.wanted, if_true, Oper.wp, execOp, resolve, List.map_toArray, List.map_cons, List.map_nil, Option.map_some, Option.map_none, e0, e1]
            go_simp
            refine (gi _).mono ?_
            rintro e wd ⟨rfl, hs2⟩
            exact hK _ _ rfl hs2
          · intro ac wc hs hd hz hf hw K hK
            have e0 : ac.eval (.tmp 26) = (.bool true) := hw 6 rfl
            clear hd hz hf hw
            simp only [Region.wanted, if_true, Oper.wp, execOp, resolve, List.map_toArray, List.map_cons, List.map_nil, Option.map_some, Option.map_none, e0]
            go_simp
            exact hK _ _ rfl (Same.refl _ _)
        · intro wA hsA
          simp only [putAll, Act.put, List.setIfInBounds_toArray, List.set_cons_succ, List.set_cons_zero]
          have y0 := hsA.cell (p := (ad.add (k * 12))) trivial c0
          have y1 := hsA.cell (p := ⟨(ad.add (k * 12)).block, (ad.add (k * 12)).off + 1, none⟩) trivial c1
          have y2 := hsA.cell (p := ⟨(ad.add (k * 12)).block, (ad.add (k * 12)).off + 2, none⟩) trivial c2
          have y3 := hsA.cell (p := ⟨(ad.add (k * 12)).block, (ad.add (k * 12)).off + 3, none⟩) trivial c3
          have y4 := hsA.cell (p := ⟨(ad.add (k * 12)).block, (ad.add (k * 12)).off + 4, none⟩) trivial c4
          have y5 := hsA.cell (p := ⟨(ad.add (k * 12)).block, (ad.add (k * 12)).off + 5, none⟩) trivial c5
          have y6 := hsA.cell (p := ⟨(ad.add (k * 12)).block, (ad.add (k * 12)).off + 6, none⟩) trivial c6
          have y7 := hsA.cell (p := ⟨(ad.add (k * 12)).block, (ad.add (k * 12)).off + 7, none⟩) trivial c7
          have y8 := hsA.cell (p := ⟨(ad.add (k * 12)).block, (ad.add (k * 12)).off + 8, none⟩) trivial c8
          have y9 := hsA.cell (p := ⟨(ad.add (k * 12)).block, (ad.add (k * 12)).off + 9, none⟩) trivial c9
          have y10 := hsA.cell (p := ⟨(ad.add (k * 12)).block, (ad.add (k * 12)).off + 10, none⟩) trivial c10
          have y11 := hsA.cell (p := ⟨(ad.add (k * 12)).block, (ad.add (k * 12)).off + 11, none⟩) trivial c11
          have s0 : wA.cell? ⟨w.heap.size + 1, 0, none⟩ = some (.int .i64 a.wall) := (Hr1.out.keep hsA trivial).cell 0
          have s1 : wA.cell? ⟨w.heap.size + 1, 1, none⟩ = some (.int .i64 a.tie) := (Hr1.out.keep hsA trivial).cell 1
          clear c0 c1 c2 c3 c4 c5 c6 c7 c8 c9 c10 c11 t0 t1
          go_wp2
          refine wp_region_eq_lit (vs := [(.slice (some ad) cs.length cp), (.int .i64 k), (.pointer (some (ad.add (k * 12)))), (celV (.slice Au c.vers.length cu) c), (stV a), (.tuple #[.string (str td), .bool tb]), (.tuple #[.string (str td), .bool tb]), (.string (str td)), (.bool tb), (.string (str td)), (.bool tb)]) (by kernel_rfl) (by kernel_rfl) rfl rfl ?_ ?_
          · refine ⟨?_, ?_, ?_, ?_, ?_, ?_, ?_, ?_, ?_, ?_, ?_, trivial⟩
            · intro ac wc hs hd hz hf hw K hK
              have e0 : ac.eval (.tmp 0) = (.slice (some ad) cs.length cp) := hf 0 rfl
              clear hd hz hf hw
              simp only [Region.wanted, if_true, Oper.wp, execOp, resolve, List.map_toArray, List.map_cons, List.map_nil, Option.map_some, Option.map_none, e0]
              go_simp
              exact hK _ _ rfl (Same.refl _ _)
            · intro ac wc hs hd hz hf hw K hK
              have e0 : ac.eval (.tmp 11) = (.int .i64 k) := hf 11 rfl
              clear hd hz hf hw
              simp only [Region.wanted, if_true, Oper.wp, execOp, resolve, List.map_toArray, List.map_cons, List.map_nil, Option.map_some, Option.map_none, e0]
              go_simp
              exact hK _ _ rfl (Same.refl _ _)
            · intro ac wc hs hd hz hf hw K hK
              have e0 : ac.eval (.tmp 29) = (.slice (some ad) cs.length cp) := hw 0 rfl
              have e1 : ac.eval (.tmp 30) = (.int .i64 k) := hw 1 rfl
              clear hd hz hf hw
              simp only [Region.wanted, if_true, Oper.wp, execOp, resolve, List.map_toArray, List.map_cons, List.map_nil, Option.map_some, Option.map_none, e0, e1]
              go_simp
              exact hK _ _ rfl (Same.refl _ _)
            · intro ac wc hs hd hz hf hw K hK
              have e0 : ac.eval (.tmp 31) = (.pointer (some (ad.add (k * 12)))) := hw 2 rfl
              have m0 : wc.cell? (ad.add (k * 12)) = some (.string (str c.key)) := hs.cell (p := (ad.add (k * 12))) trivial y0
              have m1 : wc.cell? ⟨(ad.add (k * 12)).block, (ad.add (k * 12)).off + 1, none⟩ = some (.slice Au c.vers.length cu) := hs.cell (p := ⟨(ad.add (k * 12)).block, (ad.add (k * 12)).off + 1, none⟩) trivial y1
              have m2 : wc.cell? ⟨(ad.add (k * 12)).block, (ad.add (k * 12)).off + 2, none⟩ = some (.bool c.locked) := hs.cell (p := ⟨(ad.add (k * 12)).block, (ad.add (k * 12)).off + 2, none⟩) trivial y2
              have m3 : wc.cell? ⟨(ad.add (k * 12)).block, (ad.add (k * 12)).off + 3, none⟩ = some (.int .i64 c.lock.by_.node) := hs.cell (p := ⟨(ad.add (k * 12)).block, (ad.add (k * 12)).off + 3, none⟩) trivial y3
              have m4 : wc.cell? ⟨(ad.add (k * 12)).block, (ad.add (k * 12)).off + 4, none⟩ = some (.int .i64 c.lock.by_.life) := hs.cell (p := ⟨(ad.add (k * 12)).block, (ad.add (k * 12)).off + 4, none⟩) trivial y4
              have m5 : wc.cell? ⟨(ad.add (k * 12)).block, (ad.add (k * 12)).off + 5, none⟩ = some (.int .i64 c.lock.by_.seq) := hs.cell (p := ⟨(ad.add (k * 12)).block, (ad.add (k * 12)).off + 5, none⟩) trivial y5
              have m6 : wc.cell? ⟨(ad.add (k * 12)).block, (ad.add (k * 12)).off + 6, none⟩ = some (.int .i64 c.lock.by_.attempt) := hs.cell (p := ⟨(ad.add (k * 12)).block, (ad.add (k * 12)).off + 6, none⟩) trivial y6
              have m7 : wc.cell? ⟨(ad.add (k * 12)).block, (ad.add (k * 12)).off + 7, none⟩ = some (.int .i64 c.lock.home) := hs.cell (p := ⟨(ad.add (k * 12)).block, (ad.add (k * 12)).off + 7, none⟩) trivial y7
              have m8 : wc.cell? ⟨(ad.add (k * 12)).block, (ad.add (k * 12)).off + 8, none⟩ = some (.int .i64 c.lock.at_.wall) := hs.cell (p := ⟨(ad.add (k * 12)).block, (ad.add (k * 12)).off + 8, none⟩) trivial y8
              have m9 : wc.cell? ⟨(ad.add (k * 12)).block, (ad.add (k * 12)).off + 9, none⟩ = some (.int .i64 c.lock.at_.tie) := hs.cell (p := ⟨(ad.add (k * 12)).block, (ad.add (k * 12)).off + 9, none⟩) trivial y9
              have m10 : wc.cell? ⟨(ad.add (k * 12)).block, (ad.add (k * 12)).off + 10, none⟩ = some (.bool c.lock.drop) := hs.cell (p := ⟨(ad.add (k * 12)).block, (ad.add (k * 12)).off + 10, none⟩) trivial y10
              have m11 : wc.cell? ⟨(ad.add (k * 12)).block, (ad.add (k * 12)).off + 11, none⟩ = some (.string (str c.lock.data)) := hs.cell (p := ⟨(ad.add (k * 12)).block, (ad.add (k * 12)).off + 11, none⟩) trivial y11
              clear hd hz hf hw
              simp only [Region.wanted, if_true, Oper.wp, execOp, resolve, List.map_toArray, List.map_cons, List.map_nil, Option.map_some, Option.map_none, e0]
              go_simp
              exact hK _ _ rfl (Same.refl _ _)
            · intro ac wc hs hd hz hf hw K hK
              have e0 : ac.eval (.tmp 6) = (.pointer (some ⟨w.heap.size + 1, 0, none⟩)) := hf 6 rfl
              have m0 : wc.cell? ⟨w.heap.size + 1, 0, none⟩ = some (.int .i64 a.wall) := hs.cell (p := ⟨w.heap.size + 1, 0, none⟩) trivial s0
              have m1 : wc.cell? ⟨w.heap.size + 1, 1, none⟩ = some (.int .i64 a.tie) := hs.cell (p := ⟨w.heap.size + 1, 1, none⟩) trivial s1
              clear hd hz hf hw
              simp only [Region.wanted, if_true, Oper.wp, execOp, resolve, List.map_toArray, List.map_cons, List.map_nil, Option.map_some, Option.map_none, e0]
              go_simp
              exact hK _ _ rfl (Same.refl _ _)
            · intro ac wc hs hd hz hf hw K hK
              have e0 : ac.eval (.tmp 32) = (celV (.slice Au c.vers.length cu) c) := hw 3 rfl
              have e1 : ac.eval (.tmp 33) = (stV a) := hw 4 rfl
              clear hd hz hf hw
              simp only [Region.wanted, if_true, Oper.wp, execOp, resolve, List.map_toArray, List.map_cons, List.map_nil, Option.map_some, Option.map_none, e0, e1]
              go_simp
              refine (gt wc (RowR.keepAll Hvr.out (hsA.trans hs))).mono ?_
              rintro e wd ⟨rfl, hs2⟩
              exact hK _ _ rfl hs2
            · intro ac wc hs hd hz hf hw K hK
              have e0 : ac.eval (.tmp 34) = (.tuple #[.string (str td), .bool tb]) := hw 5 rfl
              clear hd hz hf hw
              simp only [Region.wanted, if_true, Oper.wp, execOp, resolve, List.map_toArray, List.map_cons, List.map_nil, Option.map_some, Option.map_none, e0]
              go_simp
              exact hK _ _ rfl (Same.refl _ _)
            · intro ac wc hs hd hz hf hw K hK
              have e0 : ac.eval (.tmp 28) = (.tuple #[.string (str td), .bool tb]) := hw 6 rfl
              clear hd hz hf hw
              simp only [Region.wanted, if_true, Oper.wp, execOp, resolve, List.map_toArray, List.map_cons, List.map_nil, Option.map_some, Option.map_none, e0]
              go_simp
              exact hK _ _ rfl (Same.refl _ _)
            · intro ac wc hs hd hz hf hw K hK
              have e0 : ac.eval (.tmp 28) = (.tuple #[.string (str td), .bool tb]) := hw 6 rfl
              clear hd hz hf hw
              simp only [Region.wanted, if_true, Oper.wp, execOp, resolve, List.map_toArray, List.map_cons, List.map_nil, Option.map_some, Option.map_none, e0]
              go_simp
              exact hK _ _ rfl (Same.refl _ _)
            · intro ac wc hs hd hz hf hw K hK
              have e0 : ac.eval (.tmp 35) = (.string (str td)) := hw 7 rfl
              clear hd hz hf hw
              simp only [Region.wanted, if_true, Oper.wp, execOp, resolve, List.map_toArray, List.map_cons, List.map_nil, Option.map_some, Option.map_none, e0]
              go_simp
              exact hK _ _ rfl (Same.refl _ _)
            · intro ac wc hs hd hz hf hw K hK
              have e0 : ac.eval (.tmp 36) = (.bool tb) := hw 8 rfl
              clear hd hz hf hw
              simp only [Region.wanted, if_true, Oper.wp, execOp, resolve, List.map_toArray, List.map_cons, List.map_nil, Option.map_some, Option.map_none, e0]
              go_simp
              exact hK _ _ rfl (Same.refl _ _)
          · intro wB hsB
            simp only [putAll, Act.put, List.setIfInBounds_toArray, List.set_cons_succ, List.set_cons_zero]
            have hS6 := hsA.trans hsB
            have k0 := hsB.cell (p := (ad.add (k * 12))) trivial y0
            have HS6 := Lib.hid hS6
            clear y0 y1 y2 y3 y4 y5 y6 y7 y8 y9 y10 y11 s0 s1 gt gi hsA hsB hS6
            cases tb
            · go_wp2
              go_roundw
              case rel => exact ⟨k + 1, by go_num, Hrel.out.keep HS6.out (by omega) (by rw [Hgn.out]; simp)⟩
              case measure => simp [intOf]; omega
            · go_wp2_with (at_builtin; refine stopAt ?_)
              unfold Hid
              refine wpList_appR1 TP (fun _ => rfl) pairCs_one (c := (c.key, td)) rfl (.tmp 38) (.tmp 46) rfl rfl rfl rfl (Hown.out.keepAll HS6.out) (by have := HS6.out.size; omega) (by simp only [maxLen]; omega) (by omega) ?_
              intro v' w7 hown7 hS7
              have Hown7 := Lib.hid hown7
              have HS7 := Lib.hid hS7
              clear hown7 hS7 k0
              go_wp2
              go_roundw
              case rel =>
                have t5 := HS.out.trans HS6.out
                have t6 := t5.trans' HS7.out fun _ h _ => by omega
                have t7 := HS6.out.size
                have t8 := HS7.out.size
                exact ⟨k + 1, by go_num, by omega, by rw [Hgn.out]; exact Hown7.out, hB1, by omega, (Hr0.out.keep HS6.out trivial).keep HS7.out (by omega), (Hr1.out.keep HS6.out trivial).keep HS7.out (by omega), t6⟩
              case measure => simp [intOf]; omega
    · obtain rfl : k = cs.length := by omega
      have x1 : ¬ (cs.length : Int) < (cs.length : Int) := by omega
      clear hr0 hr1 hS hown t0 t1
      by_cases hmx : max most 0 < ((gotF a cs lo hi cs.length).length : Int)
      · have z : max (most : Int) 0 = (max most 0) := rfl
        have HM := Lib.hid hmx
        rcases Int.le_total most 0 with hm0 | hm0
        · have hmx' : (0 : Int) < ((gotF a cs lo hi cs.length).length : Int) := by omega
          clear hmx
          go_wp2
          go_ret2
          rw [HK.out, if_pos HM.out]
          exact ⟨_, rfl, OwnR.nil _ _, HS.out⟩
        · have hmx' : most < ((gotF a cs lo hi cs.length).length : Int) := by omega
          clear hmx
          go_wp2
          go_ret2
          rw [HK.out, if_pos HM.out]
          exact ⟨_, rfl, OwnR.nil _ _, HS.out⟩
      · have HM := Lib.hid hmx
        go_wp2
        go_ret2
        rw [HK.out, if_neg (Int.not_lt.2 HM.out)]
        exact ⟨_, rfl, own_lower Hown.out (by omega), HS.out⟩
end Go.Proofs.Ytoldelocfmpccaa
