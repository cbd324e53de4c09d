/-
  One of the longer walks of mvcc (written by bundle.py out of: MvK). No condition.
-/
import Derived.Test.YtoldelocfmpccaaQ0
set_option linter.unusedSimpArgs false
set_option linter.unusedVariables false
namespace Go.Proofs.Ytoldelocfmpccaa
open Go.RowKit

theorem withinF_step {cs : List Cel} {lo hi : List UInt8} {k : Nat} (h : k < cs.length) : withinF (cs.drop k) lo hi = (if inB lo hi cs[k].key then [cs[k]] else []) ++ withinF (cs.drop (k + 1)) lo hi := by
  unfold withinF
  rw [List.drop_eq_getElem_cons h, List.filter_cons]
  split <;> rfl
/-- What the document's loop holds. -/
def RBlkRel (R : Lck × Bool) (a : St) (cs : List Cel) (lo hi : List UInt8) (k p : Nat) (w wr : World) : Prop :=
  k ≤ cs.length ∧ blockGo a (withinF (cs.drop k) lo hi) = R ∧ Row wr p 53 [.string (str lo), .string (str hi)] ∧ Row wr (p + 1) 28 (stCs a) ∧ Row wr (p + 1 + 1) 30 (lckCs Lck.zero) ∧ Same (fun _ => True) w wr
theorem RBlkRel.keep {R : Lck × Bool} {a : St} {cs : List Cel} {lo hi : List UInt8} {k k' p : Nat} {w wr wr' : World} (h : RBlkRel R a cs lo hi k p w wr) (hs : Same (fun _ => True) wr wr') (hk : k' ≤ cs.length) (hb : blockGo a (withinF (cs.drop k') lo hi) = R) : RBlkRel R a cs lo hi k' p w wr' :=
  ⟨hk, hb, h.2.2.1.keep hs trivial, h.2.2.2.1.keep hs trivial, h.2.2.2.2.1.keep hs trivial, h.2.2.2.2.2.trans hs⟩
set_option maxRecDepth 100000 in
set_option maxHeartbeats 2000000 in
theorem refblocks_any (v : Value) (cs : List Cel) (lo hi : List UInt8) (a : St) (S : Nat → Prop) (w : World) (hv : CelR w S v cs) :
    Calls Try.prog 53 #[v, .agg #[.string (str lo), .string (str hi)], stV a] w (LckP (blocksF cs lo hi a) w) := by
  obtain ⟨A, cp, rfl, hc, hm⟩ := hv.form
  have Hv := Lib.hid hv
  unfold maxLen at hm
  obtain ⟨R, hR⟩ : ∃ R, blockGo a (withinF cs lo hi) = R := ⟨_, rfl⟩
  have K : blocksF cs lo hi a = R := by unfold blocksF; rw [hR]
  rw [K]
  have hst : ∃ W0, W0 = ((w.alloc (.cells #[.string (str lo), .string (str hi)] 53)).alloc (.cells (stCs a).toArray 28)).alloc (.cells (lckCs Lck.zero).toArray 30) := ⟨_, rfl⟩
  obtain ⟨W0, hW0⟩ := hst
  have hrel0 : RBlkRel R a cs lo hi 0 w.heap.size w W0 := by
    have hr0 := ((Row.new w 53 [.string (str lo), .string (str hi)]).keep ((Same.refl (fun _ => True) _).alloc (.cells (stCs a).toArray 28)) trivial).keep ((Same.refl (fun _ => True) _).alloc (.cells (lckCs Lck.zero).toArray 30)) trivial
    have hr1 := (Row.new (w.alloc (.cells #[.string (str lo), .string (str hi)] 53)) 28 (stCs a)).keep ((Same.refl (fun _ => True) _).alloc (.cells (lckCs Lck.zero).toArray 30)) trivial
    have hr2 := Row.new ((w.alloc (.cells #[.string (str lo), .string (str hi)] 53)).alloc (.cells (stCs a).toArray 28)) 30 (lckCs Lck.zero)
    rw [World.size_alloc] at hr1
    rw [World.size_alloc, World.size_alloc] at hr2
    rw [hW0]
    exact ⟨Nat.zero_le _, by rw [List.drop_zero]; exact hR, hr0, hr1, hr2, (((Same.refl _ _).alloc _).alloc _).alloc _⟩
  have Hrel0 := Lib.hid hrel0
  have HW0 := Lib.hid hW0
  clear K hR hv hW0 hrel0
  go_enter Try.func53, Try.ntmps53
  go_wp2
  have e0 := HW0.out
  simp only [stCs, lckCs, Lck.zero] at e0
  rw [show (str []) = (⟨#[]⟩ : ByteArray) from rfl] at e0
  rw [← e0]
  clear e0
  go_loopw [8] (fun i wr => ∃ k : Nat, i = .int .i64 k ∧ RBlkRel R a cs lo hi k w.heap.size w wr) (fun i _ => cs.length - (intOf i).toNat)
  case atStart => exact ⟨0, rfl, Hrel0.out⟩
  case round =>
    obtain ⟨k, rfl, hrel⟩ := hrel
    have Hrel := Lib.hid hrel
    obtain ⟨hk, hgo, hr0, hr1, hr2, hS⟩ := hrel
    have HS := Lib.hid hS
    have Hr2 := Lib.hid hr2
    have t0 : wr.cell? ⟨w.heap.size, 0, none⟩ = some (.string (str lo)) := hr0.cell 0
    have t1 : wr.cell? ⟨w.heap.size, 1, none⟩ = some (.string (str hi)) := hr0.cell 1
    have s0 : wr.cell? ⟨w.heap.size + 1, 0, none⟩ = some (.int .i64 a.wall) := hr1.cell 0
    have s1 : wr.cell? ⟨w.heap.size + 1, 1, none⟩ = some (.int .i64 a.tie) := hr1.cell 1
    have z2 := hr2.lt
    by_cases hlt : k < cs.length
    · obtain ⟨ad, u, rfl, -, -, c0, c1, c2, c3, c4, c5, c6, c7, c8, c9, c10, c11⟩ := CelR.cells12 (Hv.out.keepAll hS) hlt
      have x1 : (0 : Int) ≤ (k : Int) := by omega
      have x2 : (k : Int) < (cs.length : Int) := by omega
      have hcell := fun W (h : Same (fun _ => True) wr W) => CelR.cells12 (Hv.out.keepAll (hS.trans h)) hlt
      rw [withinF_step hlt] at hgo
      have gi := fun W => refin_any cs[k].key lo hi W
      have gl := fun W => refless_any a cs[k].lock.at_ W
      clear hcell
      generalize cs[k] = c at *
      clear hr0 hr1 hr2 hS
      cases hi' : inB lo hi c.key
      · rw [hi'] at gi hgo
        simp only [Bool.false_eq_true, if_false, List.nil_append] at hgo
        have Hgo := Lib.hid hgo
        clear hi' hgo
        go_wp2
        refine wp_region_eq_lit (vs := [(.slice (some ad) cs.length cp), (.int .i64 k), (.pointer (some (ad.add (k * 12)))), (.pointer (some (ad.add (k * 12)))), (.string (str c.key)), (.agg #[.string (str lo), .string (str hi)]), (.bool false), (.bool false), undef, undef, undef, undef, undef, (.bool false), (.bool false), undef, undef, undef, undef, undef, undef, undef, undef, undef, (.bool false)]) (by kernel_rfl) (by kernel_rfl) rfl rfl ?_ ?_
        · refine ⟨?_, ?_, ?_, ?_, ?_, ?_, ?_, ?_, ?_, ?_, ?_, ?_, ?_, ?_, ?_, ?_, ?_, ?_, ?_, ?_, ?_, ?_, ?_, ?_, ?_, trivial⟩
          · intro ac wc hs hd hz hf hw K hK
            have e0 : ac.eval (.tmp 0) = (.slice (some ad) cs.length cp) := hf 0 rfl
            clear hd hz hf hw
            simp only [Region.wanted, if_true, Oper.wp, execOp, resolve, List.map_toArray, List.map_cons, List.map_nil, Option.map_some, Option.map_none, e0]
            go_simp
            exact hK _ _ rfl (Same.refl _ _)
          · intro ac wc hs hd hz hf hw K hK
            have e0 : ac.eval (.tmp 8) = (.int .i64 k) := hf 8 rfl
            clear hd hz hf hw
            simp only [Region.wanted, if_true, Oper.wp, execOp, resolve, List.map_toArray, List.map_cons, List.map_nil, Option.map_some, Option.map_none, e0]
            go_simp
            exact hK _ _ rfl (Same.refl _ _)
          · intro ac wc hs hd hz hf hw K hK
            have e0 : ac.eval (.tmp 15) = (.slice (some ad) cs.length cp) := hw 0 rfl
            have e1 : ac.eval (.tmp 16) = (.int .i64 k) := hw 1 rfl
            clear hd hz hf hw
            simp only [Region.wanted, if_true, Oper.wp, execOp, resolve, List.map_toArray, List.map_cons, List.map_nil, Option.map_some, Option.map_none, e0, e1]
            go_simp
            exact hK _ _ rfl (Same.refl _ _)
          · intro ac wc hs hd hz hf hw K hK
            have e0 : ac.eval (.tmp 17) = (.pointer (some (ad.add (k * 12)))) := hw 2 rfl
            clear hd hz hf hw
            simp only [Region.wanted, if_true, Oper.wp, execOp, resolve, List.map_toArray, List.map_cons, List.map_nil, Option.map_some, Option.map_none, e0]
            go_simp
            exact hK _ _ rfl (Same.refl _ _)
          · intro ac wc hs hd hz hf hw K hK
            have e0 : ac.eval (.tmp 18) = (.pointer (some (ad.add (k * 12)))) := hw 3 rfl
            have m0 : wc.cell? (ad.add (k * 12)) = some (.string (str c.key)) := hs.cell (p := (ad.add (k * 12))) trivial c0
            clear hd hz hf hw
            simp only [Region.wanted, if_true, Oper.wp, execOp, resolve, List.map_toArray, List.map_cons, List.map_nil, Option.map_some, Option.map_none, e0]
            go_simp
            exact hK _ _ rfl (Same.refl _ _)
          · intro ac wc hs hd hz hf hw K hK
            have e0 : ac.eval (.tmp 4) = (.pointer (some ⟨w.heap.size, 0, none⟩)) := hf 4 rfl
            have m0 : wc.cell? ⟨w.heap.size, 0, none⟩ = some (.string (str lo)) := hs.cell (p := ⟨w.heap.size, 0, none⟩) trivial t0
            have m1 : wc.cell? ⟨w.heap.size, 1, none⟩ = some (.string (str hi)) := hs.cell (p := ⟨w.heap.size, 1, none⟩) trivial t1
            clear hd hz hf hw
            simp only [Region.wanted, if_true, Oper.wp, execOp, resolve, List.map_toArray, List.map_cons, List.map_nil, Option.map_some, Option.map_none, e0]
            go_simp
            exact hK _ _ rfl (Same.refl _ _)
          · intro ac wc hs hd hz hf hw K hK
            have e0 : ac.eval (.tmp 19) = (.string (str c.key)) := hw 4 rfl
            have e1 : ac.eval (.tmp 20) = (.agg #[.string (str lo), .string (str hi)]) := hw 5 rfl
            clear hd hz hf hw
            simp only [Region.wanted, if_true, Oper.wp, execOp, resolve, List.map_toArray, List.map_cons, List.map_nil, Option.map_some, Option.map_none, e0, e1]
            go_simp
            refine (gi _).mono ?_
            rintro e wd ⟨rfl, hs2⟩
            exact hK _ _ rfl hs2
          · intro ac wc hs hd hz hf hw K hK
            have e0 : ac.eval (.tmp 21) = (.bool false) := hw 6 rfl
            clear hd hz hf hw
            simp only [Region.wanted, if_true, Oper.wp, execOp, resolve, List.map_toArray, List.map_cons, List.map_nil, Option.map_some, Option.map_none, e0]
            go_simp
            exact hK _ _ rfl (Same.refl _ _)
          · intro ac wc hs hd hz hf hw K hK
            have eg : ac.eval (.tmp 22) = .bool false := hw 7 rfl
            refine skip_wanted (j := 7) (d := 22) (b := false) rfl rfl hz (of_decide_eq_true rfl) eg ?_
            clear eg
            exact hK _ _ rfl (Same.refl _ _)
          · intro ac wc hs hd hz hf hw K hK
            have eg : ac.eval (.tmp 22) = .bool false := hw 7 rfl
            refine skip_wanted (j := 7) (d := 22) (b := false) rfl rfl hz (of_decide_eq_true rfl) eg ?_
            clear eg
            exact hK _ _ rfl (Same.refl _ _)
          · intro ac wc hs hd hz hf hw K hK
            have eg : ac.eval (.tmp 22) = .bool false := hw 7 rfl
            refine skip_wanted (j := 7) (d := 22) (b := false) rfl rfl hz (of_decide_eq_true rfl) eg ?_
            clear eg
            exact hK _ _ rfl (Same.refl _ _)
          · intro ac wc hs hd hz hf hw K hK
            have eg : ac.eval (.tmp 22) = .bool false := hw 7 rfl
            refine skip_wanted (j := 7) (d := 22) (b := false) rfl rfl hz (of_decide_eq_true rfl) eg ?_
            clear eg
            exact hK _ _ rfl (Same.refl _ _)
          · intro ac wc hs hd hz hf hw K hK
            have eg : ac.eval (.tmp 22) = .bool false := hw 7 rfl
            refine skip_wanted (j := 7) (d := 22) (b := false) rfl rfl hz (of_decide_eq_true rfl) eg ?_
            clear eg
            exact hK _ _ rfl (Same.refl _ _)
          · intro ac wc hs hd hz hf hw K hK
            have e0 : ac.eval (.tmp 22) = (.bool false) := hw 7 rfl
            have e1 : ac.eval (.tmp 27) = undef := hw 12 rfl
            clear hd hz hf hw
            simp only [Region.wanted, if_true, Oper.wp, execOp, resolve, List.map_toArray, List.map_cons, List.map_nil, Option.map_some, Option.map_none, e0, e1]
            go_simp
            exact hK _ _ rfl (Same.refl _ _)
          · intro ac wc hs hd hz hf hw K hK
            have e0 : ac.eval (.tmp 28) = (.bool false) := hw 13 rfl
            clear hd hz hf hw
            simp only [Region.wanted, if_true, Oper.wp, execOp, resolve, List.map_toArray, List.map_cons, List.map_nil, Option.map_some, Option.map_none, e0]
            go_simp
            exact hK _ _ rfl (Same.refl _ _)
          · intro ac wc hs hd hz hf hw K hK
            have eg : ac.eval (.tmp 29) = .bool false := hw 14 rfl
            refine skip_wanted (j := 14) (d := 29) (b := false) rfl rfl hz (of_decide_eq_true rfl) eg ?_
            clear eg
            exact hK _ _ rfl (Same.refl _ _)
          · intro ac wc hs hd hz hf hw K hK
            have eg : ac.eval (.tmp 29) = .bool false := hw 14 rfl
            refine skip_wanted (j := 14) (d := 29) (b := false) rfl rfl hz (of_decide_eq_true rfl) eg ?_
            clear eg
            exact hK _ _ rfl (Same.refl _ _)
          · intro ac wc hs hd hz hf hw K hK
            have eg : ac.eval (.tmp 29) = .bool false := hw 14 rfl
            refine skip_wanted (j := 14) (d := 29) (b := false) rfl rfl hz (of_decide_eq_true rfl) eg ?_
            clear eg
            exact hK _ _ rfl (Same.refl _ _)
          · intro ac wc hs hd hz hf hw K hK
            have eg : ac.eval (.tmp 29) = .bool false := hw 14 rfl
            refine skip_wanted (j := 14) (d := 29) (b := false) rfl rfl hz (of_decide_eq_true rfl) eg ?_
            clear eg
            exact hK _ _ rfl (Same.refl _ _)
          · intro ac wc hs hd hz hf hw K hK
            have eg : ac.eval (.tmp 29) = .bool false := hw 14 rfl
            refine skip_wanted (j := 14) (d := 29) (b := false) rfl rfl hz (of_decide_eq_true rfl) eg ?_
            clear eg
            exact hK _ _ rfl (Same.refl _ _)
          · intro ac wc hs hd hz hf hw K hK
            have eg : ac.eval (.tmp 29) = .bool false := hw 14 rfl
            refine skip_wanted (j := 14) (d := 29) (b := false) rfl rfl hz (of_decide_eq_true rfl) eg ?_
            clear eg
            exact hK _ _ rfl (Same.refl _ _)
          · intro ac wc hs hd hz hf hw K hK
            have eg : ac.eval (.tmp 29) = .bool false := hw 14 rfl
            refine skip_wanted (j := 14) (d := 29) (b := false) rfl rfl hz (of_decide_eq_true rfl) eg ?_
            clear eg
            exact hK _ _ rfl (Same.refl _ _)
          · intro ac wc hs hd hz hf hw K hK
            have eg : ac.eval (.tmp 29) = .bool false := hw 14 rfl
            refine skip_wanted (j := 14) (d := 29) (b := false) rfl rfl hz (of_decide_eq_true rfl) eg ?_
            clear eg
            exact hK _ _ rfl (Same.refl _ _)
          · intro ac wc hs hd hz hf hw K hK
            have eg : ac.eval (.tmp 29) = .bool false := hw 14 rfl
            refine skip_wanted (j := 14) (d := 29) (b := false) rfl rfl hz (of_decide_eq_true rfl) eg ?_
            clear eg
            exact hK _ _ rfl (Same.refl _ _)
          · intro ac wc hs hd hz hf hw K hK
            have e0 : ac.eval (.tmp 29) = (.bool false) := hw 14 rfl
            have e1 : ac.eval (.tmp 38) = undef := hw 23 rfl
            clear hd hz hf hw
            simp only [Region.wanted, if_true, Oper.wp, execOp, resolve, List.map_toArray, List.map_cons, List.map_nil, Option.map_some, Option.map_none, e0, e1]
            go_simp
            exact hK _ _ rfl (Same.refl _ _)
        · intro wR hsR
          simp only [putAll, Act.put, List.setIfInBounds_toArray, List.set_cons_succ, List.set_cons_zero]
          go_wp2
          go_roundw
          case rel => exact ⟨k + 1, by go_num, Hrel.out.keep hsR (by omega) Hgo.out⟩
          case measure => simp [intOf]; omega
      · rw [hi'] at gi hgo
        simp only [if_true, List.singleton_append] at hgo
        unfold blockGo at hgo
        cases hl : c.locked
        · rw [hl] at c2 hgo
          simp only [Bool.false_and, Bool.false_eq_true, if_false] at hgo
          have Hgo := Lib.hid hgo
          clear hi' hl hgo
          go_wp2
          refine wp_region_eq_lit (vs := [(.slice (some ad) cs.length cp), (.int .i64 k), (.pointer (some (ad.add (k * 12)))), (.pointer (some (ad.add (k * 12)))), (.string (str c.key)), (.agg #[.string (str lo), .string (str hi)]), (.bool true), (.bool true), (.slice (some ad) cs.length cp), (.int .i64 k), (.pointer (some (ad.add (k * 12)))), (.pointer (some ⟨(ad.add (k * 12)).block, (ad.add (k * 12)).off + 2, none⟩)), (.bool false), (.bool false), (.bool false), undef, undef, undef, undef, undef, undef, undef, undef, undef, (.bool false)]) (by kernel_rfl) (by kernel_rfl) rfl rfl ?_ ?_
          · refine ⟨?_, ?_, ?_, ?_, ?_, ?_, ?_, ?_, ?_, ?_, ?_, ?_, ?_, ?_, ?_, ?_, ?_, ?_, ?_, ?_, ?_, ?_, ?_, ?_, ?_, trivial⟩
            · intro ac wc hs hd hz hf hw K hK
              have e0 : ac.eval (.tmp 0) = (.slice (some ad) cs.length cp) := hf 0 rfl
              clear hd hz hf hw
              simp only [Region.wanted, if_true, Oper.wp, execOp, resolve, List.map_toArray, List.map_cons, List.map_nil, Option.map_some, Option.map_none, e0]
              go_simp
              exact hK _ _ rfl (Same.refl _ _)
            · intro ac wc hs hd hz hf hw K hK
              have e0 : ac.eval (.tmp 8) = (.int .i64 k) := hf 8 rfl
              clear hd hz hf hw
              simp only [Region.wanted, if_true, Oper.wp, execOp, resolve, List.map_toArray, List.map_cons, List.map_nil, Option.map_some, Option.map_none, e0]
              go_simp
              exact hK _ _ rfl (Same.refl _ _)
            · intro ac wc hs hd hz hf hw K hK
              have e0 : ac.eval (.tmp 15) = (.slice (some ad) cs.length cp) := hw 0 rfl
              have e1 : ac.eval (.tmp 16) = (.int .i64 k) := hw 1 rfl
              clear hd hz hf hw
              simp only [Region.wanted, if_true, Oper.wp, execOp, resolve, List.map_toArray, List.map_cons, List.map_nil, Option.map_some, Option.map_none, e0, e1]
              go_simp
              exact hK _ _ rfl (Same.refl _ _)
            · intro ac wc hs hd hz hf hw K hK
              have e0 : ac.eval (.tmp 17) = (.pointer (some (ad.add (k * 12)))) := hw 2 rfl
              clear hd hz hf hw
              simp only [Region.wanted, if_true, Oper.wp, execOp, resolve, List.map_toArray, List.map_cons, List.map_nil, Option.map_some, Option.map_none, e0]
              go_simp
              exact hK _ _ rfl (Same.refl _ _)
            · intro ac wc hs hd hz hf hw K hK
              have e0 : ac.eval (.tmp 18) = (.pointer (some (ad.add (k * 12)))) := hw 3 rfl
              have m0 : wc.cell? (ad.add (k * 12)) = some (.string (str c.key)) := hs.cell (p := (ad.add (k * 12))) trivial c0
              clear hd hz hf hw
              simp only [Region.wanted, if_true, Oper.wp, execOp, resolve, List.map_toArray, List.map_cons, List.map_nil, Option.map_some, Option.map_none, e0]
              go_simp
              exact hK _ _ rfl (Same.refl _ _)
            · intro ac wc hs hd hz hf hw K hK
              have e0 : ac.eval (.tmp 4) = (.pointer (some ⟨w.heap.size, 0, none⟩)) := hf 4 rfl
              have m0 : wc.cell? ⟨w.heap.size, 0, none⟩ = some (.string (str lo)) := hs.cell (p := ⟨w.heap.size, 0, none⟩) trivial t0
              have m1 : wc.cell? ⟨w.heap.size, 1, none⟩ = some (.string (str hi)) := hs.cell (p := ⟨w.heap.size, 1, none⟩) trivial t1
              clear hd hz hf hw
              simp only [Region.wanted, if_true, Oper.wp, execOp, resolve, List.map_toArray, List.map_cons, List.map_nil, Option.map_some, Option.map_none, e0]
              go_simp
              exact hK _ _ rfl (Same.refl _ _)
            · intro ac wc hs hd hz hf hw K hK
              have e0 : ac.eval (.tmp 19) = (.string (str c.key)) := hw 4 rfl
              have e1 : ac.eval (.tmp 20) = (.agg #[.string (str lo), .string (str hi)]) := hw 5 rfl
              clear hd hz hf hw
              simp only [Region.wanted, if_true, Oper.wp, execOp, resolve, List.map_toArray, List.map_cons, List.map_nil, Option.map_some, Option.map_none, e0, e1]
              go_simp
              refine (gi _).mono ?_
              rintro e wd ⟨rfl, hs2⟩
              exact hK _ _ rfl hs2
            · intro ac wc hs hd hz hf hw K hK
              have e0 : ac.eval (.tmp 21) = (.bool true) := hw 6 rfl
              clear hd hz hf hw
              simp only [Region.wanted, if_true, Oper.wp, execOp, resolve, List.map_toArray, List.map_cons, List.map_nil, Option.map_some, Option.map_none, e0]
              go_simp
              exact hK _ _ rfl (Same.refl _ _)
            · intro ac wc hs hd hz hf hw K hK
              have eg : ac.eval (.tmp 22) = .bool true := hw 7 rfl
              refine run_wanted (j := 7) (d := 22) (b := true) rfl rfl hz (of_decide_eq_true rfl) eg ?_
              clear eg
              have e0 : ac.eval (.tmp 0) = (.slice (some ad) cs.length cp) := hf 0 rfl
              clear hd hz hf hw
              simp only [Oper.wp, execOp, resolve, List.map_toArray, List.map_cons, List.map_nil, Option.map_some, Option.map_none, e0]
              go_simp
              exact hK _ _ rfl (Same.refl _ _)
            · intro ac wc hs hd hz hf hw K hK
              have eg : ac.eval (.tmp 22) = .bool true := hw 7 rfl
              refine run_wanted (j := 7) (d := 22) (b := true) rfl rfl hz (of_decide_eq_true rfl) eg ?_
              clear eg
              have e0 : ac.eval (.tmp 8) = (.int .i64 k) := hf 8 rfl
              clear hd hz hf hw
              simp only [Oper.wp, execOp, resolve, List.map_toArray, List.map_cons, List.map_nil, Option.map_some, Option.map_none, e0]
              go_simp
              exact hK _ _ rfl (Same.refl _ _)
            · intro ac wc hs hd hz hf hw K hK
              have eg : ac.eval (.tmp 22) = .bool true := hw 7 rfl
              refine run_wanted (j := 7) (d := 22) (b := true) rfl rfl hz (of_decide_eq_true rfl) eg ?_
              clear eg
              have e0 : ac.eval (.tmp 23) = (.slice (some ad) cs.length cp) := hw 8 rfl
              have e1 : ac.eval (.tmp 24) = (.int .i64 k) := hw 9 rfl
              clear hd hz hf hw
              simp only [Oper.wp, execOp, resolve, List.map_toArray, List.map_cons, List.map_nil, Option.map_some, Option.map_none, e0, e1]
              go_simp
              exact hK _ _ rfl (Same.refl _ _)
            · intro ac wc hs hd hz hf hw K hK
              have eg : ac.eval (.tmp 22) = .bool true := hw 7 rfl
              refine run_wanted (j := 7) (d := 22) (b := true) rfl rfl hz (of_decide_eq_true rfl) eg ?_
              clear eg
              have e0 : ac.eval (.tmp 25) = (.pointer (some (ad.add (k * 12)))) := hw 10 rfl
              clear hd hz hf hw
              simp only [Oper.wp, execOp, resolve, List.map_toArray, List.map_cons, List.map_nil, Option.map_some, Option.map_none, e0]
              go_simp
              exact hK _ _ rfl (Same.refl _ _)
            · intro ac wc hs hd hz hf hw K hK
              have eg : ac.eval (.tmp 22) = .bool true := hw 7 rfl
              refine run_wanted (j := 7) (d := 22) (b := true) rfl rfl hz (of_decide_eq_true rfl) eg ?_
              clear eg
              have e0 : ac.eval (.tmp 26) = (.pointer (some ⟨(ad.add (k * 12)).block, (ad.add (k * 12)).off + 2, none⟩)) := hw 11 rfl
              have m0 : wc.cell? ⟨(ad.add (k * 12)).block, (ad.add (k * 12)).off + 2, none⟩ = some (.bool false) := hs.cell (p := ⟨(ad.add (k * 12)).block, (ad.add (k * 12)).off + 2, none⟩) trivial c2
              clear hd hz hf hw
              simp only [Oper.wp, execOp, resolve, List.map_toArray, List.map_cons, List.map_nil, Option.map_some, Option.map_none, e0]
              go_simp
              exact hK _ _ rfl (Same.refl _ _)
            · intro ac wc hs hd hz hf hw K hK
              have e0 : ac.eval (.tmp 22) = (.bool true) := hw 7 rfl
              have e1 : ac.eval (.tmp 27) = (.bool false) := hw 12 rfl
              clear hd hz hf hw
              simp only [Region.wanted, if_true, Oper.wp, execOp, resolve, List.map_toArray, List.map_cons, List.map_nil, Option.map_some, Option.map_none, e0, e1]
              go_simp
              exact hK _ _ rfl (Same.refl _ _)
            · intro ac wc hs hd hz hf hw K hK
              have e0 : ac.eval (.tmp 28) = (.bool false) := hw 13 rfl
              clear hd hz hf hw
              simp only [Region.wanted, if_true, Oper.wp, execOp, resolve, List.map_toArray, List.map_cons, List.map_nil, Option.map_some, Option.map_none, e0]
              go_simp
              exact hK _ _ rfl (Same.refl _ _)
            · intro ac wc hs hd hz hf hw K hK
              have eg : ac.eval (.tmp 29) = .bool false := hw 14 rfl
              refine skip_wanted (j := 14) (d := 29) (b := false) rfl rfl hz (of_decide_eq_true rfl) eg ?_
              clear eg
              exact hK _ _ rfl (Same.refl _ _)
            · intro ac wc hs hd hz hf hw K hK
              have eg : ac.eval (.tmp 29) = .bool false := hw 14 rfl
              refine skip_wanted (j := 14) (d := 29) (b := false) rfl rfl hz (of_decide_eq_true rfl) eg ?_
              clear eg
              exact hK _ _ rfl (Same.refl _ _)
            · intro ac wc hs hd hz hf hw K hK
              have eg : ac.eval (.tmp 29) = .bool false := hw 14 rfl
              refine skip_wanted (j := 14) (d := 29) (b := false) rfl rfl hz (of_decide_eq_true rfl) eg ?_
              clear eg
              exact hK _ _ rfl (Same.refl _ _)
            · intro ac wc hs hd hz hf hw K hK
              have eg : ac.eval (.tmp 29) = .bool false := hw 14 rfl
              refine skip_wanted (j := 14) (d := 29) (b := false) rfl rfl hz (of_decide_eq_true rfl) eg ?_
              clear eg
              exact hK _ _ rfl (Same.refl _ _)
            · intro ac wc hs hd hz hf hw K hK
              have eg : ac.eval (.tmp 29) = .bool false := hw 14 rfl
              refine skip_wanted (j := 14) (d := 29) (b := false) rfl rfl hz (of_decide_eq_true rfl) eg ?_
              clear eg
              exact hK _ _ rfl (Same.refl _ _)
            · intro ac wc hs hd hz hf hw K hK
              have eg : ac.eval (.tmp 29) = .bool false := hw 14 rfl
              refine skip_wanted (j := 14) (d := 29) (b := false) rfl rfl hz (of_decide_eq_true rfl) eg ?_
              clear eg
              exact hK _ _ rfl (Same.refl _ _)
            · intro ac wc hs hd hz hf hw K hK
              have eg : ac.eval (.tmp 29) = .bool false := hw 14 rfl
              refine skip_wanted (j := 14) (d := 29) (b := false) rfl rfl hz (of_decide_eq_true rfl) eg ?_
              clear eg
              exact hK _ _ rfl (Same.refl _ _)
            · intro ac wc hs hd hz hf hw K hK
              have eg : ac.eval (.tmp 29) = .bool false := hw 14 rfl
              refine skip_wanted (j := 14) (d := 29) (b := false) rfl rfl hz (of_decide_eq_true rfl) eg ?_
              clear eg
              exact hK _ _ rfl (Same.refl _ _)
            · intro ac wc hs hd hz hf hw K hK
              have eg : ac.eval (.tmp 29) = .bool false := hw 14 rfl
              refine skip_wanted (j := 14) (d := 29) (b := false) rfl rfl hz (of_decide_eq_true rfl) eg ?_
              clear eg
              exact hK _ _ rfl (Same.refl _ _)
            · intro ac wc hs hd hz hf hw K hK
              have e0 : ac.eval (.tmp 29) = (.bool false) := hw 14 rfl
              have e1 : ac.eval (.tmp 38) = undef := hw 23 rfl
              clear hd hz hf hw
              simp only [Region.wanted, if_true, Oper.wp, execOp, resolve, List.map_toArray, List.map_cons, List.map_nil, Option.map_some, Option.map_none, e0, e1]
              go_simp
              exact hK _ _ rfl (Same.refl _ _)
          · intro wR hsR
            simp only [putAll, Act.put, List.setIfInBounds_toArray, List.set_cons_succ, List.set_cons_zero]
            go_wp2
            go_roundw
            case rel => exact ⟨k + 1, by go_num, Hrel.out.keep hsR (by omega) Hgo.out⟩
            case measure => simp [intOf]; omega
        · rw [hl] at c2 hgo
          cases hb : lessB a c.lock.at_
          · rw [hb] at gl hgo
            have Hgo := Lib.hid hgo
            clear hi' hl hgo hb
            go_wp2
            refine wp_region_eq_lit (vs := [(.slice (some ad) cs.length cp), (.int .i64 k), (.pointer (some (ad.add (k * 12)))), (.pointer (some (ad.add (k * 12)))), (.string (str c.key)), (.agg #[.string (str lo), .string (str hi)]), (.bool true), (.bool true), (.slice (some ad) cs.length cp), (.int .i64 k), (.pointer (some (ad.add (k * 12)))), (.pointer (some ⟨(ad.add (k * 12)).block, (ad.add (k * 12)).off + 2, none⟩)), (.bool true), (.bool true), (.bool true), (stV a), (.slice (some ad) cs.length cp), (.int .i64 k), (.pointer (some (ad.add (k * 12)))), (.pointer (some ⟨(ad.add (k * 12)).block, (ad.add (k * 12)).off + 3, none⟩)), (.pointer (some ⟨(ad.add (k * 12)).block, (ad.add (k * 12)).off + 8, none⟩)), (stV c.lock.at_), (.bool false), (.bool true), (.bool true)]) (by kernel_rfl) (by kernel_rfl) rfl rfl ?_ ?_
            · refine ⟨?_, ?_, ?_, ?_, ?_, ?_, ?_, ?_, ?_, ?_, ?_, ?_, ?_, ?_, ?_, ?_, ?_, ?_, ?_, ?_, ?_, ?_, ?_, ?_, ?_, trivial⟩
              · intro ac wc hs hd hz hf hw K hK
                have e0 : ac.eval (.tmp 0) = (.slice (some ad) cs.length cp) := hf 0 rfl
                clear hd hz hf hw
                simp only [Region.wanted, if_true, Oper.wp, execOp, resolve, List.map_toArray, List.map_cons, List.map_nil, Option.map_some, Option.map_none, e0]
                go_simp
                exact hK _ _ rfl (Same.refl _ _)
              · intro ac wc hs hd hz hf hw K hK
                have e0 : ac.eval (.tmp 8) = (.int .i64 k) := hf 8 rfl
                clear hd hz hf hw
                simp only [Region.wanted, if_true, Oper.wp, execOp, resolve, List.map_toArray, List.map_cons, List.map_nil, Option.map_some, Option.map_none, e0]
                go_simp
                exact hK _ _ rfl (Same.refl _ _)
              · intro ac wc hs hd hz hf hw K hK
                have e0 : ac.eval (.tmp 15) = (.slice (some ad) cs.length cp) := hw 0 rfl
                have e1 : ac.eval (.tmp 16) = (.int .i64 k) := hw 1 rfl
                clear hd hz hf hw
                simp only [Region.wanted, if_true, Oper.wp, execOp, resolve, List.map_toArray, List.map_cons, List.map_nil, Option.map_some, Option.map_none, e0, e1]
                go_simp
                exact hK _ _ rfl (Same.refl _ _)
              · intro ac wc hs hd hz hf hw K hK
                have e0 : ac.eval (.tmp 17) = (.pointer (some (ad.add (k * 12)))) := hw 2 rfl
                clear hd hz hf hw
                simp only [Region.wanted, if_true, Oper.wp, execOp, resolve, List.map_toArray, List.map_cons, List.map_nil, Option.map_some, Option.map_none, e0]
                go_simp
                exact hK _ _ rfl (Same.refl _ _)
              · intro ac wc hs hd hz hf hw K hK
                have e0 : ac.eval (.tmp 18) = (.pointer (some (ad.add (k * 12)))) := hw 3 rfl
                have m0 : wc.cell? (ad.add (k * 12)) = some (.string (str c.key)) := hs.cell (p := (ad.add (k * 12))) trivial c0
                clear hd hz hf hw
                simp only [Region.wanted, if_true, Oper.wp, execOp, resolve, List.map_toArray, List.map_cons, List.map_nil, Option.map_some, Option.map_none, e0]
                go_simp
                exact hK _ _ rfl (Same.refl _ _)
              · intro ac wc hs hd hz hf hw K hK
                have e0 : ac.eval (.tmp 4) = (.pointer (some ⟨w.heap.size, 0, none⟩)) := hf 4 rfl
                have m0 : wc.cell? ⟨w.heap.size, 0, none⟩ = some (.string (str lo)) := hs.cell (p := ⟨w.heap.size, 0, none⟩) trivial t0
                have m1 : wc.cell? ⟨w.heap.size, 1, none⟩ = some (.string (str hi)) := hs.cell (p := ⟨w.heap.size, 1, none⟩) trivial t1
                clear hd hz hf hw
                simp only [Region.wanted, if_true, Oper.wp, execOp, resolve, List.map_toArray, List.map_cons, List.map_nil, Option.map_some, Option.map_none, e0]
                go_simp
                exact hK _ _ rfl (Same.refl _ _)
              · intro ac wc hs hd hz hf hw K hK
                have e0 : ac.eval (.tmp 19) = (.string (str c.key)) := hw 4 rfl
                have e1 : ac.eval (.tmp 20) = (.agg #[.string (str lo), .string (str hi)]) := hw 5 rfl
                clear hd hz hf hw
                simp only [Region.wanted, if_true, Oper.wp, execOp, resolve, List.map_toArray, List.map_cons, List.map_nil, Option.map_some, Option.map_none, e0, e1]
                go_simp
                refine (gi _).mono ?_
                rintro e wd ⟨rfl, hs2⟩
                exact hK _ _ rfl hs2
              · intro ac wc hs hd hz hf hw K hK
                have e0 : ac.eval (.tmp 21) = (.bool true) := hw 6 rfl
                clear hd hz hf hw
                simp only [Region.wanted, if_true, Oper.wp, execOp, resolve, List.map_toArray, List.map_cons, List.map_nil, Option.map_some, Option.map_none, e0]
                go_simp
                exact hK _ _ rfl (Same.refl _ _)
              · intro ac wc hs hd hz hf hw K hK
                have eg : ac.eval (.tmp 22) = .bool true := hw 7 rfl
                refine run_wanted (j := 7) (d := 22) (b := true) rfl rfl hz (of_decide_eq_true rfl) eg ?_
                clear eg
                have e0 : ac.eval (.tmp 0) = (.slice (some ad) cs.length cp) := hf 0 rfl
                clear hd hz hf hw
                simp only [Oper.wp, execOp, resolve, List.map_toArray, List.map_cons, List.map_nil, Option.map_some, Option.map_none, e0]
                go_simp
                exact hK _ _ rfl (Same.refl _ _)
              · intro ac wc hs hd hz hf hw K hK
                have eg : ac.eval (.tmp 22) = .bool true := hw 7 rfl
                refine run_wanted (j := 7) (d := 22) (b := true) rfl rfl hz (of_decide_eq_true rfl) eg ?_
                clear eg
                have e0 : ac.eval (.tmp 8) = (.int .i64 k) := hf 8 rfl
                clear hd hz hf hw
                simp only [Oper.wp, execOp, resolve, List.map_toArray, List.map_cons, List.map_nil, Option.map_some, Option.map_none, e0]
                go_simp
                exact hK _ _ rfl (Same.refl _ _)
              · intro ac wc hs hd hz hf hw K hK
                have eg : ac.eval (.tmp 22) = .bool true := hw 7 rfl
                refine run_wanted (j := 7) (d := 22) (b := true) rfl rfl hz (of_decide_eq_true rfl) eg ?_
                clear eg
                have e0 : ac.eval (.tmp 23) = (.slice (some ad) cs.length cp) := hw 8 rfl
                have e1 : ac.eval (.tmp 24) = (.int .i64 k) := hw 9 rfl
                clear hd hz hf hw
                simp only [Oper.wp, execOp, resolve, List.map_toArray, List.map_cons, List.map_nil, Option.map_some, Option.map_none, e0, e1]
                go_simp
                exact hK _ _ rfl (Same.refl _ _)
              · intro ac wc hs hd hz hf hw K hK
                have eg : ac.eval (.tmp 22) = .bool true := hw 7 rfl
                refine run_wanted (j := 7) (d := 22) (b := true) rfl rfl hz (of_decide_eq_true rfl) eg ?_
                clear eg
                have e0 : ac.eval (.tmp 25) = (.pointer (some (ad.add (k * 12)))) := hw 10 rfl
                clear hd hz hf hw
                simp only [Oper.wp, execOp, resolve, List.map_toArray, List.map_cons, List.map_nil, Option.map_some, Option.map_none, e0]
                go_simp
                exact hK _ _ rfl (Same.refl _ _)
              · intro ac wc hs hd hz hf hw K hK
                have eg : ac.eval (.tmp 22) = .bool true := hw 7 rfl
                refine run_wanted (j := 7) (d := 22) (b := true) rfl rfl hz (of_decide_eq_true rfl) eg ?_
                clear eg
                have e0 : ac.eval (.tmp 26) = (.pointer (some ⟨(ad.add (k * 12)).block, (ad.add (k * 12)).off + 2, none⟩)) := hw 11 rfl
                have m0 : wc.cell? ⟨(ad.add (k * 12)).block, (ad.add (k * 12)).off + 2, none⟩ = some (.bool true) := hs.cell (p := ⟨(ad.add (k * 12)).block, (ad.add (k * 12)).off + 2, none⟩) trivial c2
                clear hd hz hf hw
                simp only [Oper.wp, execOp, resolve, List.map_toArray, List.map_cons, List.map_nil, Option.map_some, Option.map_none, e0]
                go_simp
                exact hK _ _ rfl (Same.refl _ _)
              · intro ac wc hs hd hz hf hw K hK
                have e0 : ac.eval (.tmp 22) = (.bool true) := hw 7 rfl
                have e1 : ac.eval (.tmp 27) = (.bool true) := hw 12 rfl
                clear hd hz hf hw
                simp only [Region.wanted, if_true, Oper.wp, execOp, resolve, List.map_toArray, List.map_cons, List.map_nil, Option.map_some, Option.map_none, e0, e1]
                go_simp
                exact hK _ _ rfl (Same.refl _ _)
              · intro ac wc hs hd hz hf hw K hK
                have e0 : ac.eval (.tmp 28) = (.bool true) := hw 13 rfl
                clear hd hz hf hw
                simp only [Region.wanted, if_true, Oper.wp, execOp, resolve, List.map_toArray, List.map_cons, List.map_nil, Option.map_some, Option.map_none, e0]
                go_simp
                exact hK _ _ rfl (Same.refl _ _)
              · intro ac wc hs hd hz hf hw K hK
                have eg : ac.eval (.tmp 29) = .bool true := hw 14 rfl
                refine run_wanted (j := 14) (d := 29) (b := true) rfl rfl hz (of_decide_eq_true rfl) eg ?_
                clear eg
                have e0 : ac.eval (.tmp 5) = (.pointer (some ⟨w.heap.size + 1, 0, none⟩)) := hf 5 rfl
                have m0 : wc.cell? ⟨w.heap.size + 1, 0, none⟩ = some (.int .i64 a.wall) := hs.cell (p := ⟨w.heap.size + 1, 0, none⟩) trivial s0
                have m1 : wc.cell? ⟨w.heap.size + 1, 1, none⟩ = some (.int .i64 a.tie) := hs.cell (p := ⟨w.heap.size + 1, 1, none⟩) trivial s1
                clear hd hz hf hw
                simp only [Oper.wp, execOp, resolve, List.map_toArray, List.map_cons, List.map_nil, Option.map_some, Option.map_none, e0]
                go_simp
                exact hK _ _ rfl (Same.refl _ _)
              · intro ac wc hs hd hz hf hw K hK
                have eg : ac.eval (.tmp 29) = .bool true := hw 14 rfl
                refine run_wanted (j := 14) (d := 29) (b := true) rfl rfl hz (of_decide_eq_true rfl) eg ?_
                clear eg
                have e0 : ac.eval (.tmp 0) = (.slice (some ad) cs.length cp) := hf 0 rfl
                clear hd hz hf hw
                simp only [Oper.wp, execOp, resolve, List.map_toArray, List.map_cons, List.map_nil, Option.map_some, Option.map_none, e0]
                go_simp
                exact hK _ _ rfl (Same.refl _ _)
              · intro ac wc hs hd hz hf hw K hK
                have eg : ac.eval (.tmp 29) = .bool true := hw 14 rfl
                refine run_wanted (j := 14) (d := 29) (b := true) rfl rfl hz (of_decide_eq_true rfl) eg ?_
                clear eg
                have e0 : ac.eval (.tmp 8) = (.int .i64 k) := hf 8 rfl
                clear hd hz hf hw
                simp only [Oper.wp, execOp, resolve, List.map_toArray, List.map_cons, List.map_nil, Option.map_some, Option.map_none, e0]
                go_simp
                exact hK _ _ rfl (Same.refl _ _)
              · intro ac wc hs hd hz hf hw K hK
                have eg : ac.eval (.tmp 29) = .bool true := hw 14 rfl
                refine run_wanted (j := 14) (d := 29) (b := true) rfl rfl hz (of_decide_eq_true rfl) eg ?_
                clear eg
                have e0 : ac.eval (.tmp 31) = (.slice (some ad) cs.length cp) := hw 16 rfl
                have e1 : ac.eval (.tmp 32) = (.int .i64 k) := hw 17 rfl
                clear hd hz hf hw
                simp only [Oper.wp, execOp, resolve, List.map_toArray, List.map_cons, List.map_nil, Option.map_some, Option.map_none, e0, e1]
                go_simp
                exact hK _ _ rfl (Same.refl _ _)
              · intro ac wc hs hd hz hf hw K hK
                have eg : ac.eval (.tmp 29) = .bool true := hw 14 rfl
                refine run_wanted (j := 14) (d := 29) (b := true) rfl rfl hz (of_decide_eq_true rfl) eg ?_
                clear eg
                have e0 : ac.eval (.tmp 33) = (.pointer (some (ad.add (k * 12)))) := hw 18 rfl
                clear hd hz hf hw
                simp only [Oper.wp, execOp, resolve, List.map_toArray, List.map_cons, List.map_nil, Option.map_some, Option.map_none, e0]
                go_simp
                exact hK _ _ rfl (Same.refl _ _)
              · intro ac wc hs hd hz hf hw K hK
                have eg : ac.eval (.tmp 29) = .bool true := hw 14 rfl
                refine run_wanted (j := 14) (d := 29) (b := true) rfl rfl hz (of_decide_eq_true rfl) eg ?_
                clear eg
                have e0 : ac.eval (.tmp 34) = (.pointer (some ⟨(ad.add (k * 12)).block, (ad.add (k * 12)).off + 3, none⟩)) := hw 19 rfl
                clear hd hz hf hw
                simp only [Oper.wp, execOp, resolve, List.map_toArray, List.map_cons, List.map_nil, Option.map_some, Option.map_none, e0]
                go_simp
                exact hK _ _ rfl (Same.refl _ _)
              · intro ac wc hs hd hz hf hw K hK
                have eg : ac.eval (.tmp 29) = .bool true := hw 14 rfl
                refine run_wanted (j := 14) (d := 29) (b := true) rfl rfl hz (of_decide_eq_true rfl) eg ?_
                clear eg
                have e0 : ac.eval (.tmp 35) = (.pointer (some ⟨(ad.add (k * 12)).block, (ad.add (k * 12)).off + 8, none⟩)) := hw 20 rfl
                have m0 : wc.cell? ⟨(ad.add (k * 12)).block, (ad.add (k * 12)).off + 8, none⟩ = some (.int .i64 c.lock.at_.wall) := hs.cell (p := ⟨(ad.add (k * 12)).block, (ad.add (k * 12)).off + 8, none⟩) trivial c8
                have m1 : wc.cell? ⟨(ad.add (k * 12)).block, (ad.add (k * 12)).off + 9, none⟩ = some (.int .i64 c.lock.at_.tie) := hs.cell (p := ⟨(ad.add (k * 12)).block, (ad.add (k * 12)).off + 9, none⟩) trivial c9
                clear hd hz hf hw
                simp only [Oper.wp, execOp, resolve, List.map_toArray, List.map_cons, List.map_nil, Option.map_some, Option.map_none, e0]
                go_simp
                exact hK _ _ rfl (Same.refl _ _)
              · intro ac wc hs hd hz hf hw K hK
                have eg : ac.eval (.tmp 29) = .bool true := hw 14 rfl
                refine run_wanted (j := 14) (d := 29) (b := true) rfl rfl hz (of_decide_eq_true rfl) eg ?_
                clear eg
                have e0 : ac.eval (.tmp 30) = (stV a) := hw 15 rfl
                have e1 : ac.eval (.tmp 36) = (stV c.lock.at_) := hw 21 rfl
                clear hd hz hf hw
                simp only [Oper.wp, execOp, resolve, List.map_toArray, List.map_cons, List.map_nil, Option.map_some, Option.map_none, e0, e1]
                go_simp
                refine (gl _).mono ?_
                rintro e wd ⟨rfl, hs2⟩
                exact hK _ _ rfl hs2
              · intro ac wc hs hd hz hf hw K hK
                have eg : ac.eval (.tmp 29) = .bool true := hw 14 rfl
                refine run_wanted (j := 14) (d := 29) (b := true) rfl rfl hz (of_decide_eq_true rfl) eg ?_
                clear eg
                have e0 : ac.eval (.tmp 37) = (.bool false) := hw 22 rfl
                clear hd hz hf hw
                simp only [Oper.wp, execOp, resolve, List.map_toArray, List.map_cons, List.map_nil, Option.map_some, Option.map_none, e0]
                go_simp
                exact hK _ _ rfl (Same.refl _ _)
              · intro ac wc hs hd hz hf hw K hK
                have e0 : ac.eval (.tmp 29) = (.bool true) := hw 14 rfl
                have e1 : ac.eval (.tmp 38) = (.bool true) := hw 23 rfl
                clear hd hz hf hw
                simp only [Region.wanted, if_true, Oper.wp, execOp, resolve, List.map_toArray, List.map_cons, List.map_nil, Option.map_some, Option.map_none, e0, e1]
                go_simp
                exact hK _ _ rfl (Same.refl _ _)
            · intro wR hsR
              simp only [putAll, Act.put, List.setIfInBounds_toArray, List.set_cons_succ, List.set_cons_zero]
              have hr3 := Lib.hid (Hr2.out.keep hsR trivial)
              have hs3 := Lib.hid (HS.out.trans hsR)
              obtain ⟨a0, a1, a2, a3, a4, a5, a6, a7, a8, f0, f1, f2, f3, f4, f5, f6, f7, f8⟩ := lck_cells hr3.out
              simp only [Lck.zero] at a0 a1 a2 a3 a4 a5 a6 a7 a8
              have z6 := hr3.out.lt
              have y3 := hsR.cell (p := ⟨(ad.add (k * 12)).block, (ad.add (k * 12)).off + 3, none⟩) trivial c3
              have y4 := hsR.cell (p := ⟨(ad.add (k * 12)).block, (ad.add (k * 12)).off + 4, none⟩) trivial c4
              have y5 := hsR.cell (p := ⟨(ad.add (k * 12)).block, (ad.add (k * 12)).off + 5, none⟩) trivial c5
              have y6 := hsR.cell (p := ⟨(ad.add (k * 12)).block, (ad.add (k * 12)).off + 6, none⟩) trivial c6
              have y7 := hsR.cell (p := ⟨(ad.add (k * 12)).block, (ad.add (k * 12)).off + 7, none⟩) trivial c7
              have y8 := hsR.cell (p := ⟨(ad.add (k * 12)).block, (ad.add (k * 12)).off + 8, none⟩) trivial c8
              have y9 := hsR.cell (p := ⟨(ad.add (k * 12)).block, (ad.add (k * 12)).off + 9, none⟩) trivial c9
              have y10 := hsR.cell (p := ⟨(ad.add (k * 12)).block, (ad.add (k * 12)).off + 10, none⟩) trivial c10
              have y11 := hsR.cell (p := ⟨(ad.add (k * 12)).block, (ad.add (k * 12)).off + 11, none⟩) trivial c11
              clear hsR
              go_wp2
              obtain ⟨r1, r2⟩ := lck_set9 (b0 := .int .i64 c.lock.by_.node) (b1 := .int .i64 c.lock.by_.life) (b2 := .int .i64 c.lock.by_.seq) (b3 := .int .i64 c.lock.by_.attempt) (b4 := .int .i64 c.lock.home) (b5 := .int .i64 c.lock.at_.wall) (b6 := .int .i64 c.lock.at_.tie) (b7 := .bool c.lock.drop) (b8 := .string (str c.lock.data)) (by omega) hr3.out hs3.out
              rw [← Hgo.out]
              exact bodyPost_ret (refblocks_results (l := c.lock) r1 rfl rfl) rfl ⟨rfl, r2⟩
          · rw [hb] at gl hgo
            have Hgo := Lib.hid hgo
            clear hi' hl hgo hb
            go_wp2
            refine wp_region_eq_lit (vs := [(.slice (some ad) cs.length cp), (.int .i64 k), (.pointer (some (ad.add (k * 12)))), (.pointer (some (ad.add (k * 12)))), (.string (str c.key)), (.agg #[.string (str lo), .string (str hi)]), (.bool true), (.bool true), (.slice (some ad) cs.length cp), (.int .i64 k), (.pointer (some (ad.add (k * 12)))), (.pointer (some ⟨(ad.add (k * 12)).block, (ad.add (k * 12)).off + 2, none⟩)), (.bool true), (.bool true), (.bool true), (stV a), (.slice (some ad) cs.length cp), (.int .i64 k), (.pointer (some (ad.add (k * 12)))), (.pointer (some ⟨(ad.add (k * 12)).block, (ad.add (k * 12)).off + 3, none⟩)), (.pointer (some ⟨(ad.add (k * 12)).block, (ad.add (k * 12)).off + 8, none⟩)), (stV c.lock.at_), (.bool true), (.bool false), (.bool false)]) (by kernel_rfl) (by kernel_rfl) rfl rfl ?_ ?_
            · refine ⟨?_, ?_, ?_, ?_, ?_, ?_, ?_, ?_, ?_, ?_, ?_, ?_, ?_, ?_, ?_, ?_, ?_, ?_, ?_, ?_, ?_, ?_, ?_, ?_, ?_, trivial⟩
              · intro ac wc hs hd hz hf hw K hK
                have e0 : ac.eval (.tmp 0) = (.slice (some ad) cs.length cp) := hf 0 rfl
                clear hd hz hf hw
                simp only [Region.wanted, if_true, Oper.wp, execOp, resolve, List.map_toArray, List.map_cons, List.map_nil, Option.map_some, Option.map_none, e0]
                go_simp
                exact hK _ _ rfl (Same.refl _ _)
              · intro ac wc hs hd hz hf hw K hK
                have e0 : ac.eval (.tmp 8) = (.int .i64 k) := hf 8 rfl
                clear hd hz hf hw
                simp only [Region.wanted, if_true, Oper.wp, execOp, resolve, List.map_toArray, List.map_cons, List.map_nil, Option.map_some, Option.map_none, e0]
                go_simp
                exact hK _ _ rfl (Same.refl _ _)
              · intro ac wc hs hd hz hf hw K hK
                have e0 : ac.eval (.tmp 15) = (.slice (some ad) cs.length cp) := hw 0 rfl
                have e1 : ac.eval (.tmp 16) = (.int .i64 k) := hw 1 rfl
                clear hd hz hf hw
                simp only [Region.wanted, if_true, Oper.wp, execOp, resolve, List.map_toArray, List.map_cons, List.map_nil, Option.map_some, Option.map_none, e0, e1]
                go_simp
                exact hK _ _ rfl (Same.refl _ _)
              · intro ac wc hs hd hz hf hw K hK
                have e0 : ac.eval (.tmp 17) = (.pointer (some (ad.add (k * 12)))) := hw 2 rfl
                clear hd hz hf hw
                simp only [Region.wanted, if_true, Oper.wp, execOp, resolve, List.map_toArray, List.map_cons, List.map_nil, Option.map_some, Option.map_none, e0]
                go_simp
                exact hK _ _ rfl (Same.refl _ _)
              · intro ac wc hs hd hz hf hw K hK
                have e0 : ac.eval (.tmp 18) = (.pointer (some (ad.add (k * 12)))) := hw 3 rfl
                have m0 : wc.cell? (ad.add (k * 12)) = some (.string (str c.key)) := hs.cell (p := (ad.add (k * 12))) trivial c0
                clear hd hz hf hw
                simp only [Region.wanted, if_true, Oper.wp, execOp, resolve, List.map_toArray, List.map_cons, List.map_nil, Option.map_some, Option.map_none, e0]
                go_simp
                exact hK _ _ rfl (Same.refl _ _)
              · intro ac wc hs hd hz hf hw K hK
                have e0 : ac.eval (.tmp 4) = (.pointer (some ⟨w.heap.size, 0, none⟩)) := hf 4 rfl
                have m0 : wc.cell? ⟨w.heap.size, 0, none⟩ = some (.string (str lo)) := hs.cell (p := ⟨w.heap.size, 0, none⟩) trivial t0
                have m1 : wc.cell? ⟨w.heap.size, 1, none⟩ = some (.string (str hi)) := hs.cell (p := ⟨w.heap.size, 1, none⟩) trivial t1
                clear hd hz hf hw
                simp only [Region.wanted, if_true, Oper.wp, execOp, resolve, List.map_toArray, List.map_cons, List.map_nil, Option.map_some, Option.map_none, e0]
                go_simp
                exact hK _ _ rfl (Same.refl _ _)
              · intro ac wc hs hd hz hf hw K hK
                have e0 : ac.eval (.tmp 19) = (.string (str c.key)) := hw 4 rfl
                have e1 : ac.eval (.tmp 20) = (.agg #[.string (str lo), .string (str hi)]) := hw 5 rfl
                clear hd hz hf hw
                simp only [Region.wanted, if_true, Oper.wp, execOp, resolve, List.map_toArray, List.map_cons, List.map_nil, Option.map_some, Option.map_none, e0, e1]
                go_simp
                refine (gi _).mono ?_
                rintro e wd ⟨rfl, hs2⟩
                exact hK _ _ rfl hs2
              · intro ac wc hs hd hz hf hw K hK
                have e0 : ac.eval (.tmp 21) = (.bool true) := hw 6 rfl
                clear hd hz hf hw
                simp only [Region.wanted, if_true, Oper.wp, execOp, resolve, List.map_toArray, List.map_cons, List.map_nil, Option.map_some, Option.map_none, e0]
                go_simp
                exact hK _ _ rfl (Same.refl _ _)
              · intro ac wc hs hd hz hf hw K hK
                have eg : ac.eval (.tmp 22) = .bool true := hw 7 rfl
                refine run_wanted (j := 7) (d := 22) (b := true) rfl rfl hz (of_decide_eq_true rfl) eg ?_
                clear eg
                have e0 : ac.eval (.tmp 0) = (.slice (some ad) cs.length cp) := hf 0 rfl
                clear hd hz hf hw
                simp only [Oper.wp, execOp, resolve, List.map_toArray, List.map_cons, List.map_nil, Option.map_some, Option.map_none, e0]
                go_simp
                exact hK _ _ rfl (Same.refl _ _)
              · intro ac wc hs hd hz hf hw K hK
                have eg : ac.eval (.tmp 22) = .bool true := hw 7 rfl
                refine run_wanted (j := 7) (d := 22) (b := true) rfl rfl hz (of_decide_eq_true rfl) eg ?_
                clear eg
                have e0 : ac.eval (.tmp 8) = (.int .i64 k) := hf 8 rfl
                clear hd hz hf hw
                simp only [Oper.wp, execOp, resolve, List.map_toArray, List.map_cons, List.map_nil, Option.map_some, Option.map_none, e0]
                go_simp
                exact hK _ _ rfl (Same.refl _ _)
              · intro ac wc hs hd hz hf hw K hK
                have eg : ac.eval (.tmp 22) = .bool true := hw 7 rfl
                refine run_wanted (j := 7) (d := 22) (b := true) rfl rfl hz (of_decide_eq_true rfl) eg ?_
                clear eg
                have e0 : ac.eval (.tmp 23) = (.slice (some ad) cs.length cp) := hw 8 rfl
                have e1 : ac.eval (.tmp 24) = (.int .i64 k) := hw 9 rfl
                clear hd hz hf hw
                simp only [Oper.wp, execOp, resolve, List.map_toArray, List.map_cons, List.map_nil, Option.map_some, Option.map_none, e0, e1]
                go_simp
                exact hK _ _ rfl (Same.refl _ _)
              · intro ac wc hs hd hz hf hw K hK
                have eg : ac.eval (.tmp 22) = .bool true := hw 7 rfl
                refine run_wanted (j := 7) (d := 22) (b := true) rfl rfl hz (of_decide_eq_true rfl) eg ?_
                clear eg
                have e0 : ac.eval (.tmp 25) = (.pointer (some (ad.add (k * 12)))) := hw 10 rfl
                clear hd hz hf hw
                simp only [Oper.wp, execOp, resolve, List.map_toArray, List.map_cons, List.map_nil, Option.map_some, Option.map_none, e0]
                go_simp
                exact hK _ _ rfl (Same.refl _ _)
              · intro ac wc hs hd hz hf hw K hK
                have eg : ac.eval (.tmp 22) = .bool true := hw 7 rfl
                refine run_wanted (j := 7) (d := 22) (b := true) rfl rfl hz (of_decide_eq_true rfl) eg ?_
                clear eg
                have e0 : ac.eval (.tmp 26) = (.pointer (some ⟨(ad.add (k * 12)).block, (ad.add (k * 12)).off + 2, none⟩)) := hw 11 rfl
                have m0 : wc.cell? ⟨(ad.add (k * 12)).block, (ad.add (k * 12)).off + 2, none⟩ = some (.bool true) := hs.cell (p := ⟨(ad.add (k * 12)).block, (ad.add (k * 12)).off + 2, none⟩) trivial c2
                clear hd hz hf hw
                simp only [Oper.wp, execOp, resolve, List.map_toArray, List.map_cons, List.map_nil, Option.map_some, Option.map_none, e0]
                go_simp
                exact hK _ _ rfl (Same.refl _ _)
              · intro ac wc hs hd hz hf hw K hK
                have e0 : ac.eval (.tmp 22) = (.bool true) := hw 7 rfl
                have e1 : ac.eval (.tmp 27) = (.bool true) := hw 12 rfl
                clear hd hz hf hw
                simp only [Region.wanted, if_true, Oper.wp, execOp, resolve, List.map_toArray, List.map_cons, List.map_nil, Option.map_some, Option.map_none, e0, e1]
                go_simp
                exact hK _ _ rfl (Same.refl _ _)
              · intro ac wc hs hd hz hf hw K hK
                have e0 : ac.eval (.tmp 28) = (.bool true) := hw 13 rfl
                clear hd hz hf hw
                simp only [Region.wanted, if_true, Oper.wp, execOp, resolve, List.map_toArray, List.map_cons, List.map_nil, Option.map_some, Option.map_none, e0]
                go_simp
                exact hK _ _ rfl (Same.refl _ _)
              · intro ac wc hs hd hz hf hw K hK
                have eg : ac.eval (.tmp 29) = .bool true := hw 14 rfl
                refine run_wanted (j := 14) (d := 29) (b := true) rfl rfl hz (of_decide_eq_true rfl) eg ?_
                clear eg
                have e0 : ac.eval (.tmp 5) = (.pointer (some ⟨w.heap.size + 1, 0, none⟩)) := hf 5 rfl
                have m0 : wc.cell? ⟨w.heap.size + 1, 0, none⟩ = some (.int .i64 a.wall) := hs.cell (p := ⟨w.heap.size + 1, 0, none⟩) trivial s0
                have m1 : wc.cell? ⟨w.heap.size + 1, 1, none⟩ = some (.int .i64 a.tie) := hs.cell (p := ⟨w.heap.size + 1, 1, none⟩) trivial s1
                clear hd hz hf hw
                simp only [Oper.wp, execOp, resolve, List.map_toArray, List.map_cons, List.map_nil, Option.map_some, Option.map_none, e0]
                go_simp
                exact hK _ _ rfl (Same.refl _ _)
              · intro ac wc hs hd hz hf hw K hK
                have eg : ac.eval (.tmp 29) = .bool true := hw 14 rfl
                refine run_wanted (j := 14) (d := 29) (b := true) rfl rfl hz (of_decide_eq_true rfl) eg ?_
                clear eg
                have e0 : ac.eval (.tmp 0) = (.slice (some ad) cs.length cp) := hf 0 rfl
                clear hd hz hf hw
                simp only [Oper.wp, execOp, resolve, List.map_toArray, List.map_cons, List.map_nil, Option.map_some, Option.map_none, e0]
                go_simp
                exact hK _ _ rfl (Same.refl _ _)
              · intro ac wc hs hd hz hf hw K hK
                have eg : ac.eval (.tmp 29) = .bool true := hw 14 rfl
                refine run_wanted (j := 14) (d := 29) (b := true) rfl rfl hz (of_decide_eq_true rfl) eg ?_
                clear eg
                have e0 : ac.eval (.tmp 8) = (.int .i64 k) := hf 8 rfl
                clear hd hz hf hw
                simp only [Oper.wp, execOp, resolve, List.map_toArray, List.map_cons, List.map_nil, Option.map_some, Option.map_none, e0]
                go_simp
                exact hK _ _ rfl (Same.refl _ _)
              · intro ac wc hs hd hz hf hw K hK
                have eg : ac.eval (.tmp 29) = .bool true := hw 14 rfl
                refine run_wanted (j := 14) (d := 29) (b := true) rfl rfl hz (of_decide_eq_true rfl) eg ?_
                clear eg
                have e0 : ac.eval (.tmp 31) = (.slice (some ad) cs.length cp) := hw 16 rfl
                have e1 : ac.eval (.tmp 32) = (.int .i64 k) := hw 17 rfl
                clear hd hz hf hw
                simp only [Oper.wp, execOp, resolve, List.map_toArray, List.map_cons, List.map_nil, Option.map_some, Option.map_none, e0, e1]
                go_simp
                exact hK _ _ rfl (Same.refl _ _)
              · intro ac wc hs hd hz hf hw K hK
                have eg : ac.eval (.tmp 29) = .bool true := hw 14 rfl
                refine run_wanted (j := 14) (d := 29) (b := true) rfl rfl hz (of_decide_eq_true rfl) eg ?_
                clear eg
                have e0 : ac.eval (.tmp 33) = (.pointer (some (ad.add (k * 12)))) := hw 18 rfl
                clear hd hz hf hw
                simp only [Oper.wp, execOp, resolve, List.map_toArray, List.map_cons, List.map_nil, Option.map_some, Option.map_none, e0]
                go_simp
                exact hK _ _ rfl (Same.refl _ _)
              · intro ac wc hs hd hz hf hw K hK
                have eg : ac.eval (.tmp 29) = .bool true := hw 14 rfl
                refine run_wanted (j := 14) (d := 29) (b := true) rfl rfl hz (of_decide_eq_true rfl) eg ?_
                clear eg
                have e0 : ac.eval (.tmp 34) = (.pointer (some ⟨(ad.add (k * 12)).block, (ad.add (k * 12)).off + 3, none⟩)) := hw 19 rfl
                clear hd hz hf hw
                simp only [Oper.wp, execOp, resolve, List.map_toArray, List.map_cons, List.map_nil, Option.map_some, Option.map_none, e0]
                go_simp
                exact hK _ _ rfl (Same.refl _ _)
              · intro ac wc hs hd hz hf hw K hK
                have eg : ac.eval (.tmp 29) = .bool true := hw 14 rfl
                refine run_wanted (j := 14) (d := 29) (b := true) rfl rfl hz (of_decide_eq_true rfl) eg ?_
                clear eg
                have e0 : ac.eval (.tmp 35) = (.pointer (some ⟨(ad.add (k * 12)).block, (ad.add (k * 12)).off + 8, none⟩)) := hw 20 rfl
                have m0 : wc.cell? ⟨(ad.add (k * 12)).block, (ad.add (k * 12)).off + 8, none⟩ = some (.int .i64 c.lock.at_.wall) := hs.cell (p := ⟨(ad.add (k * 12)).block, (ad.add (k * 12)).off + 8, none⟩) trivial c8
                have m1 : wc.cell? ⟨(ad.add (k * 12)).block, (ad.add (k * 12)).off + 9, none⟩ = some (.int .i64 c.lock.at_.tie) := hs.cell (p := ⟨(ad.add (k * 12)).block, (ad.add (k * 12)).off + 9, none⟩) trivial c9
                clear hd hz hf hw
                simp only [Oper.wp, execOp, resolve, List.map_toArray, List.map_cons, List.map_nil, Option.map_some, Option.map_none, e0]
                go_simp
                exact hK _ _ rfl (Same.refl _ _)
              · intro ac wc hs hd hz hf hw K hK
                have eg : ac.eval (.tmp 29) = .bool true := hw 14 rfl
                refine run_wanted (j := 14) (d := 29) (b := true) rfl rfl hz (of_decide_eq_true rfl) eg ?_
                clear eg
                have e0 : ac.eval (.tmp 30) = (stV a) := hw 15 rfl
                have e1 : ac.eval (.tmp 36) = (stV c.lock.at_) := hw 21 rfl
                clear hd hz hf hw
                simp only [Oper.wp, execOp, resolve, List.map_toArray, List.map_cons, List.map_nil, Option.map_some, Option.map_none, e0, e1]
                go_simp
                refine (gl _).mono ?_
                rintro e wd ⟨rfl, hs2⟩
                exact hK _ _ rfl hs2
              · intro ac wc hs hd hz hf hw K hK
                have eg : ac.eval (.tmp 29) = .bool true := hw 14 rfl
                refine run_wanted (j := 14) (d := 29) (b := true) rfl rfl hz (of_decide_eq_true rfl) eg ?_
                clear eg
                have e0 : ac.eval (.tmp 37) = (.bool true) := hw 22 rfl
                clear hd hz hf hw
                simp only [Oper.wp, execOp, resolve, List.map_toArray, List.map_cons, List.map_nil, Option.map_some, Option.map_none, e0]
                go_simp
                exact hK _ _ rfl (Same.refl _ _)
              · intro ac wc hs hd hz hf hw K hK
                have e0 : ac.eval (.tmp 29) = (.bool true) := hw 14 rfl
                have e1 : ac.eval (.tmp 38) = (.bool false) := hw 23 rfl
                clear hd hz hf hw
                simp only [Region.wanted, if_true, Oper.wp, execOp, resolve, List.map_toArray, List.map_cons, List.map_nil, Option.map_some, Option.map_none, e0, e1]
                go_simp
                exact hK _ _ rfl (Same.refl _ _)
            · intro wR hsR
              simp only [putAll, Act.put, List.setIfInBounds_toArray, List.set_cons_succ, List.set_cons_zero]
              go_wp2
              go_roundw
              case rel => exact ⟨k + 1, by go_num, Hrel.out.keep hsR (by omega) Hgo.out⟩
              case measure => simp [intOf]; omega
    · obtain rfl : k = cs.length := by omega
      rw [List.drop_eq_nil_of_le (Nat.le_refl _)] at hgo
      have hgo' : R = (Lck.zero, false) := hgo.symm
      have Hgo := Lib.hid hgo'
      clear hgo hgo' hr0 hr1 hS
      obtain ⟨a0, a1, a2, a3, a4, a5, a6, a7, a8, f0, f1, f2, f3, f4, f5, f6, f7, f8⟩ := lck_cells hr2
      simp only [Lck.zero] at a0 a1 a2 a3 a4 a5 a6 a7 a8
      clear hr2
      go_wp2
      obtain ⟨r1, r2⟩ := lck_set9 (b0 := .int .i64 0) (b1 := .int .i64 0) (b2 := .int .i64 0) (b3 := .int .i64 0) (b4 := .int .i64 0) (b5 := .int .i64 0) (b6 := .int .i64 0) (b7 := .bool false) (b8 := .string ⟨#[]⟩) (by omega) Hr2.out HS.out
      rw [Hgo.out]
      exact bodyPost_ret (refblocks_results (l := Lck.zero) r1 rfl rfl) rfl ⟨rfl, r2⟩
end Go.Proofs.Ytoldelocfmpccaa
