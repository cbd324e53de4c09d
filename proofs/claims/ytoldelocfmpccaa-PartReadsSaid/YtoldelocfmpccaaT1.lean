/-
  Words, plain models, laws and walks that the claims of this layer share (joined by shake.py). No condition.
-/
import Derived.WalkKit
import Derived.WalkSpells
import Derived.WalkLawsBesides
import Derived.ProofKit
import Derived.OpenShut
import Derived.ChangeOld
import Derived.Below
import Derived.Carry
import Derived.Deep.Slices
import Derived.Maps.AppendAt
import Derived.Deep.AppendLies
import Derived.RegionTactic
import Derived.OwnWalk
import Derived.Lib.Hide
import Derived.Laws.CopyOwn
import Derived.Laws.BytesArg
import Derived.Laws.IdiomStrings
import Derived.Test.YtoldelocfmpccaaRows
import Derived.Outline
import Derived.Shelf.Small.Strs
import Derived.Test.YtoldelocfmpccaaProg
import Derived.Deep.QuietTactic
import Derived.BigQuiet
import Derived.Deep.RegionHeld3
import Derived.Orders
import Derived.Lib.AppendZerosOnto
import Derived.Lib.Overlaps
import Derived.Deep.RegionLaw
import Derived.Deep.CutRange
import Derived.StillTail
import Derived.Test.YtoldelocfmpccaaS9
import Derived.Test.YtoldelocfmpccaaS8
import Derived.Test.YtoldelocfmpccaaS7
import Derived.Test.YtoldelocfmpccaaS6
import Derived.Test.YtoldelocfmpccaaS5
import Derived.Test.YtoldelocfmpccaaS4
import Derived.Test.YtoldelocfmpccaaS3
import Derived.Test.YtoldelocfmpccaaS2
import Derived.Test.YtoldelocfmpccaaS14
import Derived.Test.YtoldelocfmpccaaS13
import Derived.Test.YtoldelocfmpccaaS12
import Derived.Test.YtoldelocfmpccaaS11
import Derived.Test.YtoldelocfmpccaaS10
import Derived.Test.YtoldelocfmpccaaS1
set_option linter.unusedSimpArgs false
set_option linter.unusedVariables false
namespace Go.Proofs.Ytoldelocfmpccaa
open Go.RowKit
theorem refblocks_results {W : World} {k : Nat} {l : Lck} {b : Bool} (R : Row W k 30 (lckCs l)) {tmps : Array Value}
    (h2 : tmps.getD 6 undef = .pointer (some ⟨k, 0, none⟩)) (h3 : tmps.getD 7 undef = .bool b) :
    (results Try.f53 tmps).run Try.prog W = .ok (.tuple #[lckV l, .bool b]) W := by
  have d0 : W.cell? ⟨k, 0, none⟩ = some (.int .i64 l.by_.node) := R.cell 0
  have d1 : W.cell? ⟨k, 1, none⟩ = some (.int .i64 l.by_.life) := R.cell 1
  have d2 : W.cell? ⟨k, 2, none⟩ = some (.int .i64 l.by_.seq) := R.cell 2
  have d3 : W.cell? ⟨k, 3, none⟩ = some (.int .i64 l.by_.attempt) := R.cell 3
  have d4 : W.cell? ⟨k, 4, none⟩ = some (.int .i64 l.home) := R.cell 4
  have d5 : W.cell? ⟨k, 5, none⟩ = some (.int .i64 l.at_.wall) := R.cell 5
  have d6 : W.cell? ⟨k, 6, none⟩ = some (.int .i64 l.at_.tie) := R.cell 6
  have d7 : W.cell? ⟨k, 7, none⟩ = some (.bool l.drop) := R.cell 7
  have d8 : W.cell? ⟨k, 8, none⟩ = some (.string (str l.data)) := R.cell 8
  simp at h2 h3
  simp [results, Try.results53, h2, h3, go_sem, d0, d1, d2, d3, d4, d5, d6, d7, d8]
set_option maxHeartbeats 400000 in
theorem refin_any (key lo hi : List UInt8) (w : World) : Calls Try.prog 87 #[.string (str key), .agg #[.string (str lo), .string (str hi)]] w fun e w' => e = .returned (.bool (inB lo hi key)) ∧ Same (fun _ => True) w w' := by
  have q1 := ltB_str key lo
  have q2 := ltB_str key hi
  have K : inB lo hi key = (!ltB key lo && ltB key hi) := rfl
  cases h1 : ltB key lo <;> cases h2 : ltB key hi
  all_goals
    rw [h1] at q1 K
    rw [h2] at q2 K
    have HK := Lib.hid K
    clear K h1 h2
    go_enter Try.func87, Try.ntmps87
    go_wp2
    go_ret
    exact ⟨by rw [HK.out]; rfl, (Same.refl _ _).alloc _⟩
end Go.Proofs.Ytoldelocfmpccaa
namespace Go.Proofs.Ytoldelocfmpccaa
open Go.RowKit
theorem withinF_step {cs : List Cel} {lo hi : List UInt8} {k : Nat} (h : k < cs.length) : withinF (cs.drop k) lo hi = (if inB lo hi cs[k].key then [cs[k]] else []) ++ withinF (cs.drop (k + 1)) lo hi := by
  unfold withinF
  rw [List.drop_eq_getElem_cons h, List.filter_cons]
  split <;> rfl
set_option maxRecDepth 100000 in
set_option maxHeartbeats 2000000 in
theorem refblocks_any (v : Value) (cs : List Cel) (lo hi : List UInt8) (a : St) (S : Nat → Prop) (w : World) (hv : CelR w S v cs) :
    Calls Try.prog 53 #[v, .agg #[.string (str lo), .string (str hi)], stV a] w (LckP (blocksF cs lo hi a) w) := by
  obtain ⟨A, cp, rfl, hc, hm⟩ := hv.form
  have Hv := Lib.hid hv
  unfold maxLen at hm
  obtain ⟨R, hR⟩ : ∃ R, blockGo a (withinF cs lo hi) = R := ⟨_, rfl⟩
  have K : blocksF cs lo hi a = R := by unfold blocksF; rw [hR]
  rw [K]
  have hst : ∃ W0, W0 = ((w.alloc (.cells #[.string (str lo), .string (str hi)] 53)).alloc (.cells (stCs a).toArray 28)).alloc (.cells (lckCs Lck.zero).toArray 30) := ⟨_, rfl⟩
  obtain ⟨W0, hW0⟩ := hst
  have hrel0 : RBlkRel R a cs lo hi 0 w.heap.size w W0 := by
    have hr0 := ((Row.new w 53 [.string (str lo), .string (str hi)]).keep ((Same.refl (fun _ => True) _).alloc (.cells (stCs a).toArray 28)) trivial).keep ((Same.refl (fun _ => True) _).alloc (.cells (lckCs Lck.zero).toArray 30)) trivial
    have hr1 := (Row.new (w.alloc (.cells #[.string (str lo), .string (str hi)] 53)) 28 (stCs a)).keep ((Same.refl (fun _ => True) _).alloc (.cells (lckCs Lck.zero).toArray 30)) trivial
    have hr2 := Row.new ((w.alloc (.cells #[.string (str lo), .string (str hi)] 53)).alloc (.cells (stCs a).toArray 28)) 30 (lckCs Lck.zero)
    rw [World.size_alloc] at hr1
    rw [World.size_alloc, World.size_alloc] at hr2
    rw [hW0]
    exact ⟨Nat.zero_le _, by rw [List.drop_zero]; exact hR, hr0, hr1, hr2, (((Same.refl _ _).alloc _).alloc _).alloc _⟩
  have Hrel0 := Lib.hid hrel0
  have HW0 := Lib.hid hW0
  clear K hR hv hW0 hrel0
  go_enter Try.func53, Try.ntmps53
  go_wp2
  have e0 := HW0.out
  simp only [stCs, lckCs, Lck.zero] at e0
  rw [show (str []) = (⟨#[]⟩ : ByteArray) from rfl] at e0
  rw [← e0]
  clear e0
  go_loopw [8] (fun i wr => ∃ k : Nat, i = .int .i64 k ∧ RBlkRel R a cs lo hi k w.heap.size w wr) (fun i _ => cs.length - (intOf i).toNat)
  case atStart => exact ⟨0, rfl, Hrel0.out⟩
  case round =>
    obtain ⟨k, rfl, hrel⟩ := hrel
    have Hrel := Lib.hid hrel
    obtain ⟨hk, hgo, hr0, hr1, hr2, hS⟩ := hrel
    have HS := Lib.hid hS
    have Hr2 := Lib.hid hr2
    have t0 : wr.cell? ⟨w.heap.size, 0, none⟩ = some (.string (str lo)) := hr0.cell 0
    have t1 : wr.cell? ⟨w.heap.size, 1, none⟩ = some (.string (str hi)) := hr0.cell 1
    have s0 : wr.cell? ⟨w.heap.size + 1, 0, none⟩ = some (.int .i64 a.wall) := hr1.cell 0
    have s1 : wr.cell? ⟨w.heap.size + 1, 1, none⟩ = some (.int .i64 a.tie) := hr1.cell 1
    have z2 := hr2.lt
    by_cases hlt : k < cs.length
    · obtain ⟨ad, u, rfl, -, -, c0, c1, c2, c3, c4, c5, c6, c7, c8, c9, c10, c11⟩ := CelR.cells12 (Hv.out.keepAll hS) hlt
      have x1 : (0 : Int) ≤ (k : Int) := by omega
      have x2 : (k : Int) < (cs.length : Int) := by omega
      have hcell := fun W (h : Same (fun _ => True) wr W) => CelR.cells12 (Hv.out.keepAll (hS.trans h)) hlt
      rw [withinF_step hlt] at hgo
      have gi := fun W => refin_any cs[k].key lo hi W
      have gl := fun W => refless_any a cs[k].lock.at_ W
      clear hcell
      generalize cs[k] = c at *
      clear hr0 hr1 hr2 hS
      cases hi' : inB lo hi c.key
      · rw [hi'] at gi hgo
        simp only [Bool.false_eq_true, if_false, List.nil_append] at hgo
        have Hgo := Lib.hid hgo
        clear hi' hgo
        go_wp2
        refine wp_region_eq_lit (vs := [(.slice (some ad) cs.length cp), (.int .i64 k), (.pointer (some (ad.add (k * 12)))), (.pointer (some (ad.add (k * 12)))), (.string (str c.key)), (.agg #[.string (str lo), .string (str hi)]), (.bool false), (.bool false), undef, undef, undef, undef, undef, (.bool false), (.bool false), undef, undef, undef, undef, undef, undef, undef, undef, undef, (.bool false)]) (by kernel_rfl) (by kernel_rfl) rfl rfl ?_ ?_
        · refine ⟨?_, ?_, ?_, ?_, ?_, ?_, ?_, ?_, ?_, ?_, ?_, ?_, ?_, ?_, ?_, ?_, ?_, ?_, ?_, ?_, ?_, ?_, ?_, ?_, ?_, trivial⟩
          · intro ac wc hs hd hz hf hw K hK
            have e0 : ac.eval (.tmp 0) = (.slice (some ad) cs.length cp) := hf 0 rfl
            clear hd hz hf hw
            simp only [Region.wanted, if_true, Oper.wp, execOp, resolve, List.map_toArray, List.map_cons, List.map_nil, Option.map_some, Option.map_none, e0]
            go_simp
            exact hK _ _ rfl (Same.refl _ _)
          · intro ac wc hs hd hz hf hw K hK
            have e0 : ac.eval (.tmp 8) = (.int .i64 k) := hf 8 rfl
            clear hd hz hf hw
            simp only [Region.wanted, if_true, Oper.wp, execOp, resolve, List.map_toArray, List.map_cons, List.map_nil, Option.map_some, Option.map_none, e0]
            go_simp
            exact hK _ _ rfl (Same.refl _ _)
          · intro ac wc hs hd hz hf hw K hK
            have e0 : ac.eval (.tmp 15) = (.slice (some ad) cs.length cp) := hw 0 rfl
            have e1 : ac.eval (.tmp 16) = (.int .i64 k) := hw 1 rfl
            clear hd hz hf hw
            simp only [Region.wanted, if_true, Oper.wp, execOp, resolve, List.map_toArray, List.map_cons, List.map_nil, Option.map_some, Option.map_none, e0, e1]
            go_simp
            exact hK _ _ rfl (Same.refl _ _)
          · intro ac wc hs hd hz hf hw K hK
            have e0 : ac.eval (.tmp 17) = (.pointer (some (ad.add (k * 12)))) := hw 2 rfl
            clear hd hz hf hw
            simp only [Region.wanted, if_true, Oper.wp, execOp, resolve, List.map_toArray, List.map_cons, List.map_nil, Option.map_some, Option.map_none, e0]
            go_simp
            exact hK _ _ rfl (Same.refl _ _)
          · intro ac wc hs hd hz hf hw K hK
            have e0 : ac.eval (.tmp 18) = (.pointer (some (ad.add (k * 12)))) := hw 3 rfl
            have m0 : wc.cell? (ad.add (k * 12)) = some (.string (str c.key)) := hs.cell (p := (ad.add (k * 12))) trivial c0
            clear hd hz hf hw
            simp only [Region.wanted, if_true, Oper.wp, execOp, resolve, List.map_toArray, List.map_cons, List.map_nil, Option.map_some, Option.map_none, e0]
            go_simp
            exact hK _ _ rfl (Same.refl _ _)
          · intro ac wc hs hd hz hf hw K hK
            have e0 : ac.eval (.tmp 4) = (.pointer (some ⟨w.heap.size, 0, none⟩)) := hf 4 rfl
            have m0 : wc.cell? ⟨w.heap.size, 0, none⟩ = some (.string (str lo)) := hs.cell (p := ⟨w.heap.size, 0, none⟩) trivial t0
            have m1 : wc.cell? ⟨w.heap.size, 1, none⟩ = some (.string (str hi)) := hs.cell (p := ⟨w.heap.size, 1, none⟩) trivial t1
            clear hd hz hf hw
            simp only [Region.wanted, if_true, Oper.wp, execOp, resolve, List.map_toArray, List.map_cons, List.map_nil, Option.map_some, Option.map_none, e0]
            go_simp
            exact hK _ _ rfl (Same.refl _ _)
          · intro ac wc hs hd hz hf hw K hK
            have e0 : ac.eval (.tmp 19) = (.string (str c.key)) := hw 4 rfl
            have e1 : ac.eval (.tmp 20) = (.agg #[.string (str lo), .string (str hi)]) := hw 5 rfl
            clear hd hz hf hw
            simp only [Region.wanted, if_true, Oper.wp, execOp, resolve, List.map_toArray, List.map_cons, List.map_nil, Option.map_some, Option.map_none, e0, e1]
            go_simp
            refine (gi _).mono ?_
            rintro e wd ⟨rfl, hs2⟩
            exact hK _ _ rfl hs2
          · intro ac wc hs hd hz hf hw K hK
            have e0 : ac.eval (.tmp 21) = (.bool false) := hw 6 rfl
            clear hd hz hf hw
            simp only [Region.wanted, if_true, Oper.wp, execOp, resolve, List.map_toArray, List.map_cons, List.map_nil, Option.map_some, Option.map_none, e0]
            go_simp
            exact hK _ _ rfl (Same.refl _ _)
          · intro ac wc hs hd hz hf hw K hK
            have eg : ac.eval (.tmp 22) = .bool false := hw 7 rfl
            refine skip_wanted (j := 7) (d := 22) (b := false) rfl rfl hz (of_decide_eq_true rfl) eg ?_
            clear eg
            exact hK _ _ rfl (Same.refl _ _)
          · intro ac wc hs hd hz hf hw K hK
            have eg : ac.eval (.tmp 22) = .bool false := hw 7 rfl
            refine skip_wanted (j := 7) (d := 22) (b := false) rfl rfl hz (of_decide_eq_true rfl) eg ?_
            clear eg
            exact hK _ _ rfl (Same.refl _ _)
          · intro ac wc hs hd hz hf hw K hK
            have eg : ac.eval (.tmp 22) = .bool false := hw 7 rfl
            refine skip_wanted (j := 7) (d := 22) (b := false) rfl rfl hz (of_decide_eq_true rfl) eg ?_
            clear eg
            exact hK _ _ rfl (Same.refl _ _)
          · intro ac wc hs hd hz hf hw K hK
            have eg : ac.eval (.tmp 22) = .bool false := hw 7 rfl
            refine skip_wanted (j := 7) (d := 22) (b := false) rfl rfl hz (of_decide_eq_true rfl) eg ?_
            clear eg
            exact hK _ _ rfl (Same.refl _ _)
          · intro ac wc hs hd hz hf hw K hK
            have eg : ac.eval (.tmp 22) = .bool false := hw 7 rfl
            refine skip_wanted (j := 7) (d := 22) (b := false) rfl rfl hz (of_decide_eq_true rfl) eg ?_
            clear eg
            exact hK _ _ rfl (Same.refl _ _)
          · intro ac wc hs hd hz hf hw K hK
            have e0 : ac.eval (.tmp 22) = (.bool false) := hw 7 rfl
            have e1 : ac.eval (.tmp 27) = undef := hw 12 rfl
            clear hd hz hf hw
            simp only [Region.wanted, if_true, Oper.wp, execOp, resolve, List.map_toArray, List.map_cons, List.map_nil, Option.map_some, Option.map_none, e0, e1]
            go_simp
            exact hK _ _ rfl (Same.refl _ _)
          · intro ac wc hs hd hz hf hw K hK
            have e0 : ac.eval (.tmp 28) = (.bool false) := hw 13 rfl
            clear hd hz hf hw
            simp only [Region.wanted, if_true, Oper.wp, execOp, resolve, List.map_toArray, List.map_cons, List.map_nil, Option.map_some, Option.map_none, e0]
            go_simp
            exact hK _ _ rfl (Same.refl _ _)
          · intro ac wc hs hd hz hf hw K hK
            have eg : ac.eval (.tmp 29) = .bool false := hw 14 rfl
            refine skip_wanted (j := 14) (d := 29) (b := false) rfl rfl hz (of_decide_eq_true rfl) eg ?_
            clear eg
            exact hK _ _ rfl (Same.refl _ _)
          · intro ac wc hs hd hz hf hw K hK
            have eg : ac.eval (.tmp 29) = .bool false := hw 14 rfl
            refine skip_wanted (j := 14) (d := 29) (b := false) rfl rfl hz (of_decide_eq_true rfl) eg ?_
            clear eg
            exact hK _ _ rfl (Same.refl _ _)
          · intro ac wc hs hd hz hf hw K hK
            have eg : ac.eval (.tmp 29) = .bool false := hw 14 rfl
            refine skip_wanted (j := 14) (d := 29) (b := false) rfl rfl hz (of_decide_eq_true rfl) eg ?_
            clear eg
            exact hK _ _ rfl (Same.refl _ _)
          · intro ac wc hs hd hz hf hw K hK
            have eg : ac.eval (.tmp 29) = .bool false := hw 14 rfl
            refine skip_wanted (j := 14) (d := 29) (b := false) rfl rfl hz (of_decide_eq_true rfl) eg ?_
            clear eg
            exact hK _ _ rfl (Same.refl _ _)
          · intro ac wc hs hd hz hf hw K hK
            have eg : ac.eval (.tmp 29) = .bool false := hw 14 rfl
            refine skip_wanted (j := 14) (d := 29) (b := false) rfl rfl hz (of_decide_eq_true rfl) eg ?_
            clear eg
            exact hK _ _ rfl (Same.refl _ _)
          · intro ac wc hs hd hz hf hw K hK
            have eg : ac.eval (.tmp 29) = .bool false := hw 14 rfl
            refine skip_wanted (j := 14) (d := 29) (b := false) rfl rfl hz (of_decide_eq_true rfl) eg ?_
            clear eg
            exact hK _ _ rfl (Same.refl _ _)
          · intro ac wc hs hd hz hf hw K hK
            have eg : ac.eval (.tmp 29) = .bool false := hw 14 rfl
            refine skip_wanted (j := 14) (d := 29) (b := false) rfl rfl hz (of_decide_eq_true rfl) eg ?_
            clear eg
            exact hK _ _ rfl (Same.refl _ _)
          · intro ac wc hs hd hz hf hw K hK
            have eg : ac.eval (.tmp 29) = .bool false := hw 14 rfl
            refine skip_wanted (j := 14) (d := 29) (b := false) rfl rfl hz (of_decide_eq_true rfl) eg ?_
            clear eg
            exact hK _ _ rfl (Same.refl _ _)
          · intro ac wc hs hd hz hf hw K hK
            have eg : ac.eval (.tmp 29) = .bool false := hw 14 rfl
            refine skip_wanted (j := 14) (d := 29) (b := false) rfl rfl hz (of_decide_eq_true rfl) eg ?_
            clear eg
            exact hK _ _ rfl (Same.refl _ _)
          · intro ac wc hs hd hz hf hw K hK
            have e0 : ac.eval (.tmp 29) = (.bool false) := hw 14 rfl
            have e1 : ac.eval (.tmp 38) = undef := hw 23 rfl
            clear hd hz hf hw
            simp only [Region.wanted, if_true, Oper.wp, execOp, resolve, List.map_toArray, List.map_cons, List.map_nil, Option.map_some, Option.map_none, e0, e1]
            go_simp
            exact hK _ _ rfl (Same.refl _ _)
        · intro wR hsR
          simp only [putAll, Act.put, List.setIfInBounds_toArray, List.set_cons_succ, List.set_cons_zero]
          go_wp2
          go_roundw
          case rel => exact ⟨k + 1, by go_num, Hrel.out.keep hsR (by omega) Hgo.out⟩
          case measure => simp [intOf]; omega
      · rw [hi'] at gi hgo
        simp only [if_true, List.singleton_append] at hgo
        unfold blockGo at hgo
        cases hl : c.locked
        · rw [hl] at c2 hgo
          simp only [Bool.false_and, Bool.false_eq_true, if_false] at hgo
          have Hgo := Lib.hid hgo
          clear hi' hl hgo
          go_wp2
          refine wp_region_eq_lit (vs := [(.slice (some ad) cs.length cp), (.int .i64 k), (.pointer (some (ad.add (k * 12)))), (.pointer (some (ad.add (k * 12)))), (.string (str c.key)), (.agg #[.string (str lo), .string (str hi)]), (.bool true), (.bool true), (.slice (some ad) cs.length cp), (.int .i64 k), (.pointer (some (ad.add (k * 12)))), (.pointer (some ⟨(ad.add (k * 12)).block, (ad.add (k * 12)).off + 2, none⟩)), (.bool false), (.bool false), (.bool false), undef, undef, undef, undef, undef, undef, undef, undef, undef, (.bool false)]) (by kernel_rfl) (by kernel_rfl) rfl rfl ?_ ?_
          · refine ⟨?_, ?_, ?_, ?_, ?_, ?_, ?_, ?_, ?_, ?_, ?_, ?_, ?_, ?_, ?_, ?_, ?_, ?_, ?_, ?_, ?_, ?_, ?_, ?_, ?_, trivial⟩
            · intro ac wc hs hd hz hf hw K hK
              have e0 : ac.eval (.tmp 0) = (.slice (some ad) cs.length cp) := hf 0 rfl
              clear hd hz hf hw
              simp only [Region.wanted, if_true, Oper.wp, execOp, resolve, List.map_toArray, List.map_cons, List.map_nil, Option.map_some, Option.map_none, e0]
              go_simp
              exact hK _ _ rfl (Same.refl _ _)
            · intro ac wc hs hd hz hf hw K hK
              have e0 : ac.eval (.tmp 8) = (.int .i64 k) := hf 8 rfl
              clear hd hz hf hw
              simp only [Region.wanted, if_true, Oper.wp, execOp, resolve, List.map_toArray, List.map_cons, List.map_nil, Option.map_some, Option.map_none, e0]
              go_simp
              exact hK _ _ rfl (Same.refl _ _)
            · intro ac wc hs hd hz hf hw K hK
              have e0 : ac.eval (.tmp 15) = (.slice (some ad) cs.length cp) := hw 0 rfl
              have e1 : ac.eval (.tmp 16) = (.int .i64 k) := hw 1 rfl
              clear hd hz hf hw
              simp only [Region.wanted, if_true, Oper.wp, execOp, resolve, List.map_toArray, List.map_cons, List.map_nil, Option.map_some, Option.map_none, e0, e1]
              go_simp
              exact hK _ _ rfl (Same.refl _ _)
            · intro ac wc hs hd hz hf hw K hK
              have e0 : ac.eval (.tmp 17) = (.pointer (some (ad.add (k * 12)))) := hw 2 rfl
              clear hd hz hf hw
              simp only [Region.wanted, if_true, Oper.wp, execOp, resolve, List.map_toArray, List.map_cons, List.map_nil, Option.map_some, Option.map_none, e0]
              go_simp
              exact hK _ _ rfl (Same.refl _ _)
            · intro ac wc hs hd hz hf hw K hK
              have e0 : ac.eval (.tmp 18) = (.pointer (some (ad.add (k * 12)))) := hw 3 rfl
              have m0 : wc.cell? (ad.add (k * 12)) = some (.string (str c.key)) := hs.cell (p := (ad.add (k * 12))) trivial c0
              clear hd hz hf hw
              simp only [Region.wanted, if_true, Oper.wp, execOp, resolve, List.map_toArray, List.map_cons, List.map_nil, Option.map_some, Option.map_none, e0]
              go_simp
              exact hK _ _ rfl (Same.refl _ _)
            · intro ac wc hs hd hz hf hw K hK
              have e0 : ac.eval (.tmp 4) = (.pointer (some ⟨w.heap.size, 0, none⟩)) := hf 4 rfl
              have m0 : wc.cell? ⟨w.heap.size, 0, none⟩ = some (.string (str lo)) := hs.cell (p := ⟨w.heap.size, 0, none⟩) trivial t0
              have m1 : wc.cell? ⟨w.heap.size, 1, none⟩ = some (.string (str hi)) := hs.cell (p := ⟨w.heap.size, 1, none⟩) trivial t1
              clear hd hz hf hw
              simp only [Region.wanted, if_true, Oper.wp, execOp, resolve, List.map_toArray, List.map_cons, List.map_nil, Option.map_some, Option.map_none, e0]
              go_simp
              exact hK _ _ rfl (Same.refl _ _)
            · intro ac wc hs hd hz hf hw K hK
              have e0 : ac.eval (.tmp 19) = (.string (str c.key)) := hw 4 rfl
              have e1 : ac.eval (.tmp 20) = (.agg #[.string (str lo), .string (str hi)]) := hw 5 rfl
              clear hd hz hf hw
              simp only [Region.wanted, if_true, Oper.wp, execOp, resolve, List.map_toArray, List.map_cons, List.map_nil, Option.map_some, Option.map_none, e0, e1]
              go_simp
              refine (gi _).mono ?_
              rintro e wd ⟨rfl, hs2⟩
              exact hK _ _ rfl hs2
            · intro ac wc hs hd hz hf hw K hK
              have e0 : ac.eval (.tmp 21) = (.bool true) := hw 6 rfl
              clear hd hz hf hw
              simp only [Region.wanted, if_true, Oper.wp, execOp, resolve, List.map_toArray, List.map_cons, List.map_nil, Option.map_some, Option.map_none, e0]
              go_simp
              exact hK _ _ rfl (Same.refl _ _)
            · intro ac wc hs hd hz hf hw K hK
              have eg : ac.eval (.tmp 22) = .bool true := hw 7 rfl
              refine run_wanted (j := 7) (d := 22) (b := true) rfl rfl hz (of_decide_eq_true rfl) eg ?_
              clear eg
              have e0 : ac.eval (.tmp 0) = (.slice (some ad) cs.length cp) := hf 0 rfl
              clear hd hz hf hw
              simp only [Oper.wp, execOp, resolve, List.map_toArray, List.map_cons, List.map_nil, Option.map_some, Option.map_none, e0]
              go_simp
              exact hK _ _ rfl (Same.refl _ _)
            · intro ac wc hs hd hz hf hw K hK
              have eg : ac.eval (.tmp 22) = .bool true := hw 7 rfl
              refine run_wanted (j := 7) (d := 22) (b := true) rfl rfl hz (of_decide_eq_true rfl) eg ?_
              clear eg
              have e0 : ac.eval (.tmp 8) = (.int .i64 k) := hf 8 rfl
              clear hd hz hf hw
              simp only [Oper.wp, execOp, resolve, List.map_toArray, List.map_cons, List.map_nil, Option.map_some, Option.map_none, e0]
              go_simp
              exact hK _ _ rfl (Same.refl _ _)
            · intro ac wc hs hd hz hf hw K hK
              have eg : ac.eval (.tmp 22) = .bool true := hw 7 rfl
              refine run_wanted (j := 7) (d := 22) (b := true) rfl rfl hz (of_decide_eq_true rfl) eg ?_
              clear eg
              have e0 : ac.eval (.tmp 23) = (.slice (some ad) cs.length cp) := hw 8 rfl
              have e1 : ac.eval (.tmp 24) = (.int .i64 k) := hw 9 rfl
              clear hd hz hf hw
              simp only [Oper.wp, execOp, resolve, List.map_toArray, List.map_cons, List.map_nil, Option.map_some, Option.map_none, e0, e1]
              go_simp
              exact hK _ _ rfl (Same.refl _ _)
            · intro ac wc hs hd hz hf hw K hK
              have eg : ac.eval (.tmp 22) = .bool true := hw 7 rfl
              refine run_wanted (j := 7) (d := 22) (b := true) rfl rfl hz (of_decide_eq_true rfl) eg ?_
              clear eg
              have e0 : ac.eval (.tmp 25) = (.pointer (some (ad.add (k * 12)))) := hw 10 rfl
              clear hd hz hf hw
              simp only [Oper.wp, execOp, resolve, List.map_toArray, List.map_cons, List.map_nil, Option.map_some, Option.map_none, e0]
              go_simp
              exact hK _ _ rfl (Same.refl _ _)
            · intro ac wc hs hd hz hf hw K hK
              have eg : ac.eval (.tmp 22) = .bool true := hw 7 rfl
              refine run_wanted (j := 7) (d := 22) (b := true) rfl rfl hz (of_decide_eq_true rfl) eg ?_
              clear eg
              have e0 : ac.eval (.tmp 26) = (.pointer (some ⟨(ad.add (k * 12)).block, (ad.add (k * 12)).off + 2, none⟩)) := hw 11 rfl
              have m0 : wc.cell? ⟨(ad.add (k * 12)).block, (ad.add (k * 12)).off + 2, none⟩ = some (.bool false) := hs.cell (p := ⟨(ad.add (k * 12)).block, (ad.add (k * 12)).off + 2, none⟩) trivial c2
              clear hd hz hf hw
              simp only [Oper.wp, execOp, resolve, List.map_toArray, List.map_cons, List.map_nil, Option.map_some, Option.map_none, e0]
              go_simp
              exact hK _ _ rfl (Same.refl _ _)
            · intro ac wc hs hd hz hf hw K hK
              have e0 : ac.eval (.tmp 22) = (.bool true) := hw 7 rfl
              have e1 : ac.eval (.tmp 27) = (.bool false) := hw 12 rfl
              clear hd hz hf hw
              simp only [Region.wanted, if_true, Oper.wp, execOp, resolve, List.map_toArray, List.map_cons, List.map_nil, Option.map_some, Option.map_none, e0, e1]
              go_simp
              exact hK _ _ rfl (Same.refl _ _)
            · intro ac wc hs hd hz hf hw K hK
              have e0 : ac.eval (.tmp 28) = (.bool false) := hw 13 rfl
              clear hd hz hf hw
              simp only [Region.wanted, if_true, Oper.wp, execOp, resolve, List.map_toArray, List.map_cons, List.map_nil, Option.map_some, Option.map_none, e0]
              go_simp
              exact hK _ _ rfl (Same.refl _ _)
            · intro ac wc hs hd hz hf hw K hK
              have eg : ac.eval (.tmp 29) = .bool false := hw 14 rfl
              refine skip_wanted (j := 14) (d := 29) (b := false) rfl rfl hz (of_decide_eq_true rfl) eg ?_
              clear eg
              exact hK _ _ rfl (Same.refl _ _)
            · intro ac wc hs hd hz hf hw K hK
              have eg : ac.eval (.tmp 29) = .bool false := hw 14 rfl
              refine skip_wanted (j := 14) (d := 29) (b := false) rfl rfl hz (of_decide_eq_true rfl) eg ?_
              clear eg
              exact hK _ _ rfl (Same.refl _ _)
            · intro ac wc hs hd hz hf hw K hK
              have eg : ac.eval (.tmp 29) = .bool false := hw 14 rfl
              refine skip_wanted (j := 14) (d := 29) (b := false) rfl rfl hz (of_decide_eq_true rfl) eg ?_
              clear eg
              exact hK _ _ rfl (Same.refl _ _)
            · intro ac wc hs hd hz hf hw K hK
              have eg : ac.eval (.tmp 29) = .bool false := hw 14 rfl
              refine skip_wanted (j := 14) (d := 29) (b := false) rfl rfl hz (of_decide_eq_true rfl) eg ?_
              clear eg
              exact hK _ _ rfl (Same.refl _ _)
            · intro ac wc hs hd hz hf hw K hK
              have eg : ac.eval (.tmp 29) = .bool false := hw 14 rfl
              refine skip_wanted (j := 14) (d := 29) (b := false) rfl rfl hz (of_decide_eq_true rfl) eg ?_
              clear eg
              exact hK _ _ rfl (Same.refl _ _)
            · intro ac wc hs hd hz hf hw K hK
              have eg : ac.eval (.tmp 29) = .bool false := hw 14 rfl
              refine skip_wanted (j := 14) (d := 29) (b := false) rfl rfl hz (of_decide_eq_true rfl) eg ?_
              clear eg
              exact hK _ _ rfl (Same.refl _ _)
            · intro ac wc hs hd hz hf hw K hK
              have eg : ac.eval (.tmp 29) = .bool false := hw 14 rfl
              refine skip_wanted (j := 14) (d := 29) (b := false) rfl rfl hz (of_decide_eq_true rfl) eg ?_
              clear eg
              exact hK _ _ rfl (Same.refl _ _)
            · intro ac wc hs hd hz hf hw K hK
              have eg : ac.eval (.tmp 29) = .bool false := hw 14 rfl
              refine skip_wanted (j := 14) (d := 29) (b := false) rfl rfl hz (of_decide_eq_true rfl) eg ?_
              clear eg
              exact hK _ _ rfl (Same.refl _ _)
            · intro ac wc hs hd hz hf hw K hK
              have eg : ac.eval (.tmp 29) = .bool false := hw 14 rfl
              refine skip_wanted (j := 14) (d := 29) (b := false) rfl rfl hz (of_decide_eq_true rfl) eg ?_
              clear eg
              exact hK _ _ rfl (Same.refl _ _)
            · intro ac wc hs hd hz hf hw K hK
              have e0 : ac.eval (.tmp 29) = (.bool false) := hw 14 rfl
              have e1 : ac.eval (.tmp 38) = undef := hw 23 rfl
              clear hd hz hf hw
              simp only [Region.wanted, if_true, Oper.wp, execOp, resolve, List.map_toArray, List.map_cons, List.map_nil, Option.map_some, Option.map_none, e0, e1]
              go_simp
              exact hK _ _ rfl (Same.refl _ _)
          · intro wR hsR
            simp only [putAll, Act.put, List.setIfInBounds_toArray, List.set_cons_succ, List.set_cons_zero]
            go_wp2
            go_roundw
            case rel => exact ⟨k + 1, by go_num, Hrel.out.keep hsR (by omega) Hgo.out⟩
            case measure => simp [intOf]; omega
        · rw [hl] at c2 hgo
          cases hb : lessB a c.lock.at_
          · rw [hb] at gl hgo
            have Hgo := Lib.hid hgo
            clear hi' hl hgo hb
            go_wp2
            refine wp_region_eq_lit (vs := [(.slice (some ad) cs.length cp), (.int .i64 k), (.pointer (some (ad.add (k * 12)))), (.pointer (some (ad.add (k * 12)))), (.string (str c.key)), (.agg #[.string (str lo), .string (str hi)]), (.bool true), (.bool true), (.slice (some ad) cs.length cp), (.int .i64 k), (.pointer (some (ad.add (k * 12)))), (.pointer (some ⟨(ad.add (k * 12)).block, (ad.add (k * 12)).off + 2, none⟩)), (.bool true), (.bool true), (.bool true), (stV a), (.slice (some ad) cs.length cp), (.int .i64 k), (.pointer (some (ad.add (k * 12)))), (.pointer (some ⟨(ad.add (k * 12)).block, (ad.add (k * 12)).off + 3, none⟩)), (.pointer (some ⟨(ad.add (k * 12)).block, (ad.add (k * 12)).off + 8, none⟩)), (stV c.lock.at_), (.bool false), (.bool true), (.bool true)]) (by kernel_rfl) (by kernel_rfl) rfl rfl ?_ ?_
            · refine ⟨?_, ?_, ?_, ?_, ?_, ?_, ?_, ?_, ?_, ?_, ?_, ?_, ?_, ?_, ?_, ?_, ?_, ?_, ?_, ?_, ?_, ?_, ?_, ?_, ?_, trivial⟩
              · intro ac wc hs hd hz hf hw K hK
                have e0 : ac.eval (.tmp 0) = (.slice (some ad) cs.length cp) := hf 0 rfl
                clear hd hz hf hw
                simp only [Region.wanted, if_true, Oper.wp, execOp, resolve, List.map_toArray, List.map_cons, List.map_nil, Option.map_some, Option.map_none, e0]
                go_simp
                exact hK _ _ rfl (Same.refl _ _)
              · intro ac wc hs hd hz hf hw K hK
                have e0 : ac.eval (.tmp 8) = (.int .i64 k) := hf 8 rfl
                clear hd hz hf hw
                simp only [Region.wanted, if_true, Oper.wp, execOp, resolve, List.map_toArray, List.map_cons, List.map_nil, Option.map_some, Option.map_none, e0]
                go_simp
                exact hK _ _ rfl (Same.refl _ _)
              · intro ac wc hs hd hz hf hw K hK
                have e0 : ac.eval (.tmp 15) = (.slice (some ad) cs.length cp) := hw 0 rfl
                have e1 : ac.eval (.tmp 16) = (.int .i64 k) := hw 1 rfl
                clear hd hz hf hw
                simp only [Region.wanted, if_true, Oper.wp, execOp, resolve, List.map_toArray, List.map_cons, List.map_nil, Option.map_some, Option.map_none, e0, e1]
                go_simp
                exact hK _ _ rfl (Same.refl _ _)
              · intro ac wc hs hd hz hf hw K hK
                have e0 : ac.eval (.tmp 17) = (.pointer (some (ad.add (k * 12)))) := hw 2 rfl
                clear hd hz hf hw
                simp only [Region.wanted, if_true, Oper.wp, execOp, resolve, List.map_toArray, List.map_cons, List.map_nil, Option.map_some, Option.map_none, e0]
                go_simp
                exact hK _ _ rfl (Same.refl _ _)
              · intro ac wc hs hd hz hf hw K hK
                have e0 : ac.eval (.tmp 18) = (.pointer (some (ad.add (k * 12)))) := hw 3 rfl
                have m0 : wc.cell? (ad.add (k * 12)) = some (.string (str c.key)) := hs.cell (p := (ad.add (k * 12))) trivial c0
                clear hd hz hf hw
                simp only [Region.wanted, if_true, Oper.wp, execOp, resolve, List.map_toArray, List.map_cons, List.map_nil, Option.map_some, Option.map_none, e0]
                go_simp
                exact hK _ _ rfl (Same.refl _ _)
              · intro ac wc hs hd hz hf hw K hK
                have e0 : ac.eval (.tmp 4) = (.pointer (some ⟨w.heap.size, 0, none⟩)) := hf 4 rfl
                have m0 : wc.cell? ⟨w.heap.size, 0, none⟩ = some (.string (str lo)) := hs.cell (p := ⟨w.heap.size, 0, none⟩) trivial t0
                have m1 : wc.cell? ⟨w.heap.size, 1, none⟩ = some (.string (str hi)) := hs.cell (p := ⟨w.heap.size, 1, none⟩) trivial t1
                clear hd hz hf hw
                simp only [Region.wanted, if_true, Oper.wp, execOp, resolve, List.map_toArray, List.map_cons, List.map_nil, Option.map_some, Option.map_none, e0]
                go_simp
                exact hK _ _ rfl (Same.refl _ _)
              · intro ac wc hs hd hz hf hw K hK
                have e0 : ac.eval (.tmp 19) = (.string (str c.key)) := hw 4 rfl
                have e1 : ac.eval (.tmp 20) = (.agg #[.string (str lo), .string (str hi)]) := hw 5 rfl
                clear hd hz hf hw
                simp only [Region.wanted, if_true, Oper.wp, execOp, resolve, List.map_toArray, List.map_cons, List.map_nil, Option.map_some, Option.map_none, e0, e1]
                go_simp
                refine (gi _).mono ?_
                rintro e wd ⟨rfl, hs2⟩
                exact hK _ _ rfl hs2
              · intro ac wc hs hd hz hf hw K hK
                have e0 : ac.eval (.tmp 21) = (.bool true) := hw 6 rfl
                clear hd hz hf hw
                simp only [Region.wanted, if_true, Oper.wp, execOp, resolve, List.map_toArray, List.map_cons, List.map_nil, Option.map_some, Option.map_none, e0]
                go_simp
                exact hK _ _ rfl (Same.refl _ _)
              · intro ac wc hs hd hz hf hw K hK
                have eg : ac.eval (.tmp 22) = .bool true := hw 7 rfl
                refine run_wanted (j := 7) (d := 22) (b := true) rfl rfl hz (of_decide_eq_true rfl) eg ?_
                clear eg
                have e0 : ac.eval (.tmp 0) = (.slice (some ad) cs.length cp) := hf 0 rfl
                clear hd hz hf hw
                simp only [Oper.wp, execOp, resolve, List.map_toArray, List.map_cons, List.map_nil, Option.map_some, Option.map_none, e0]
                go_simp
                exact hK _ _ rfl (Same.refl _ _)
              · intro ac wc hs hd hz hf hw K hK
                have eg : ac.eval (.tmp 22) = .bool true := hw 7 rfl
                refine run_wanted (j := 7) (d := 22) (b := true) rfl rfl hz (of_decide_eq_true rfl) eg ?_
                clear eg
                have e0 : ac.eval (.tmp 8) = (.int .i64 k) := hf 8 rfl
                clear hd hz hf hw
                simp only [Oper.wp, execOp, resolve, List.map_toArray, List.map_cons, List.map_nil, Option.map_some, Option.map_none, e0]
                go_simp
                exact hK _ _ rfl (Same.refl _ _)
              · intro ac wc hs hd hz hf hw K hK
                have eg : ac.eval (.tmp 22) = .bool true := hw 7 rfl
                refine run_wanted (j := 7) (d := 22) (b := true) rfl rfl hz (of_decide_eq_true rfl) eg ?_
                clear eg
                have e0 : ac.eval (.tmp 23) = (.slice (some ad) cs.length cp) := hw 8 rfl
                have e1 : ac.eval (.tmp 24) = (.int .i64 k) := hw 9 rfl
                clear hd hz hf hw
                simp only [Oper.wp, execOp, resolve, List.map_toArray, List.map_cons, List.map_nil, Option.map_some, Option.map_none, e0, e1]
                go_simp
                exact hK _ _ rfl (Same.refl _ _)
              · intro ac wc hs hd hz hf hw K hK
                have eg : ac.eval (.tmp 22) = .bool true := hw 7 rfl
                refine run_wanted (j := 7) (d := 22) (b := true) rfl rfl hz (of_decide_eq_true rfl) eg ?_
                clear eg
                have e0 : ac.eval (.tmp 25) = (.pointer (some (ad.add (k * 12)))) := hw 10 rfl
                clear hd hz hf hw
                simp only [Oper.wp, execOp, resolve, List.map_toArray, List.map_cons, List.map_nil, Option.map_some, Option.map_none, e0]
                go_simp
                exact hK _ _ rfl (Same.refl _ _)
              · intro ac wc hs hd hz hf hw K hK
                have eg : ac.eval (.tmp 22) = .bool true := hw 7 rfl
                refine run_wanted (j := 7) (d := 22) (b := true) rfl rfl hz (of_decide_eq_true rfl) eg ?_
                clear eg
                have e0 : ac.eval (.tmp 26) = (.pointer (some ⟨(ad.add (k * 12)).block, (ad.add (k * 12)).off + 2, none⟩)) := hw 11 rfl
                have m0 : wc.cell? ⟨(ad.add (k * 12)).block, (ad.add (k * 12)).off + 2, none⟩ = some (.bool true) := hs.cell (p := ⟨(ad.add (k * 12)).block, (ad.add (k * 12)).off + 2, none⟩) trivial c2
                clear hd hz hf hw
                simp only [Oper.wp, execOp, resolve, List.map_toArray, List.map_cons, List.map_nil, Option.map_some, Option.map_none, e0]
                go_simp
                exact hK _ _ rfl (Same.refl _ _)
              · intro ac wc hs hd hz hf hw K hK
                have e0 : ac.eval (.tmp 22) = (.bool true) := hw 7 rfl
                have e1 : ac.eval (.tmp 27) = (.bool true) := hw 12 rfl
                clear hd hz hf hw
                simp only [Region.wanted, if_true, Oper.wp, execOp, resolve, List.map_toArray, List.map_cons, List.map_nil, Option.map_some, Option.map_none, e0, e1]
                go_simp
                exact hK _ _ rfl (Same.refl _ _)
              · intro ac wc hs hd hz hf hw K hK
                have e0 : ac.eval (.tmp 28) = (.bool true) := hw 13 rfl
                clear hd hz hf hw
                simp only [Region.wanted, if_true, Oper.wp, execOp, resolve, List.map_toArray, List.map_cons, List.map_nil, Option.map_some, Option.map_none, e0]
                go_simp
                exact hK _ _ rfl (Same.refl _ _)
              · intro ac wc hs hd hz hf hw K hK
                have eg : ac.eval (.tmp 29) = .bool true := hw 14 rfl
                refine run_wanted (j := 14) (d := 29) (b := true) rfl rfl hz (of_decide_eq_true rfl) eg ?_
                clear eg
                have e0 : ac.eval (.tmp 5) = (.pointer (some ⟨w.heap.size + 1, 0, none⟩)) := hf 5 rfl
                have m0 : wc.cell? ⟨w.heap.size + 1, 0, none⟩ = some (.int .i64 a.wall) := hs.cell (p := ⟨w.heap.size + 1, 0, none⟩) trivial s0
                have m1 : wc.cell? ⟨w.heap.size + 1, 1, none⟩ = some (.int .i64 a.tie) := hs.cell (p := ⟨w.heap.size + 1, 1, none⟩) trivial s1
                clear hd hz hf hw
                simp only [Oper.wp, execOp, resolve, List.map_toArray, List.map_cons, List.map_nil, Option.map_some, Option.map_none, e0]
                go_simp
                exact hK _ _ rfl (Same.refl _ _)
              · intro ac wc hs hd hz hf hw K hK
                have eg : ac.eval (.tmp 29) = .bool true := hw 14 rfl
                refine run_wanted (j := 14) (d := 29) (b := true) rfl rfl hz (of_decide_eq_true rfl) eg ?_
                clear eg
                have e0 : ac.eval (.tmp 0) = (.slice (some ad) cs.length cp) := hf 0 rfl
                clear hd hz hf hw
                simp only [Oper.wp, execOp, resolve, List.map_toArray, List.map_cons, List.map_nil, Option.map_some, Option.map_none, e0]
                go_simp
                exact hK _ _ rfl (Same.refl _ _)
              · intro ac wc hs hd hz hf hw K hK
                have eg : ac.eval (.tmp 29) = .bool true := hw 14 rfl
                refine run_wanted (j := 14) (d := 29) (b := true) rfl rfl hz (of_decide_eq_true rfl) eg ?_
                clear eg
                have e0 : ac.eval (.tmp 8) = (.int .i64 k) := hf 8 rfl
                clear hd hz hf hw
                simp only [Oper.wp, execOp, resolve, List.map_toArray, List.map_cons, List.map_nil, Option.map_some, Option.map_none, e0]
                go_simp
                exact hK _ _ rfl (Same.refl _ _)
              · intro ac wc hs hd hz hf hw K hK
                have eg : ac.eval (.tmp 29) = .bool true := hw 14 rfl
                refine run_wanted (j := 14) (d := 29) (b := true) rfl rfl hz (of_decide_eq_true rfl) eg ?_
                clear eg
                have e0 : ac.eval (.tmp 31) = (.slice (some ad) cs.length cp) := hw 16 rfl
                have e1 : ac.eval (.tmp 32) = (.int .i64 k) := hw 17 rfl
                clear hd hz hf hw
                simp only [Oper.wp, execOp, resolve, List.map_toArray, List.map_cons, List.map_nil, Option.map_some, Option.map_none, e0, e1]
                go_simp
                exact hK _ _ rfl (Same.refl _ _)
              · intro ac wc hs hd hz hf hw K hK
                have eg : ac.eval (.tmp 29) = .bool true := hw 14 rfl
                refine run_wanted (j := 14) (d := 29) (b := true) rfl rfl hz (of_decide_eq_true rfl) eg ?_
                clear eg
                have e0 : ac.eval (.tmp 33) = (.pointer (some (ad.add (k * 12)))) := hw 18 rfl
                clear hd hz hf hw
                simp only [Oper.wp, execOp, resolve, List.map_toArray, List.map_cons, List.map_nil, Option.map_some, Option.map_none, e0]
                go_simp
                exact hK _ _ rfl (Same.refl _ _)
              · intro ac wc hs hd hz hf hw K hK
                have eg : ac.eval (.tmp 29) = .bool true := hw 14 rfl
                refine run_wanted (j := 14) (d := 29) (b := true) rfl rfl hz (of_decide_eq_true rfl) eg ?_
                clear eg
                have e0 : ac.eval (.tmp 34) = (.pointer (some ⟨(ad.add (k * 12)).block, (ad.add (k * 12)).off + 3, none⟩)) := hw 19 rfl
                clear hd hz hf hw
                simp only [Oper.wp, execOp, resolve, List.map_toArray, List.map_cons, List.map_nil, Option.map_some, Option.map_none, e0]
                go_simp
                exact hK _ _ rfl (Same.refl _ _)
              · intro ac wc hs hd hz hf hw K hK
                have eg : ac.eval (.tmp 29) = .bool true := hw 14 rfl
                refine run_wanted (j := 14) (d := 29) (b := true) rfl rfl hz (of_decide_eq_true rfl) eg ?_
                clear eg
                have e0 : ac.eval (.tmp 35) = (.pointer (some ⟨(ad.add (k * 12)).block, (ad.add (k * 12)).off + 8, none⟩)) := hw 20 rfl
                have m0 : wc.cell? ⟨(ad.add (k * 12)).block, (ad.add (k * 12)).off + 8, none⟩ = some (.int .i64 c.lock.at_.wall) := hs.cell (p := ⟨(ad.add (k * 12)).block, (ad.add (k * 12)).off + 8, none⟩) trivial c8
                have m1 : wc.cell? ⟨(ad.add (k * 12)).block, (ad.add (k * 12)).off + 9, none⟩ = some (.int .i64 c.lock.at_.tie) := hs.cell (p := ⟨(ad.add (k * 12)).block, (ad.add (k * 12)).off + 9, none⟩) trivial c9
                clear hd hz hf hw
                simp only [Oper.wp, execOp, resolve, List.map_toArray, List.map_cons, List.map_nil, Option.map_some, Option.map_none, e0]
                go_simp
                exact hK _ _ rfl (Same.refl _ _)
              · intro ac wc hs hd hz hf hw K hK
                have eg : ac.eval (.tmp 29) = .bool true := hw 14 rfl
                refine run_wanted (j := 14) (d := 29) (b := true) rfl rfl hz (of_decide_eq_true rfl) eg ?_
                clear eg
                have e0 : ac.eval (.tmp 30) = (stV a) := hw 15 rfl
                have e1 : ac.eval (.tmp 36) = (stV c.lock.at_) := hw 21 rfl
                clear hd hz hf hw
                simp only [Oper.wp, execOp, resolve, List.map_toArray, List.map_cons, List.map_nil, Option.map_some, Option.map_none, e0, e1]
                go_simp
                refine (gl _).mono ?_
                rintro e wd ⟨rfl, hs2⟩
                exact hK _ _ rfl hs2
              · intro ac wc hs hd hz hf hw K hK
                have eg : ac.eval (.tmp 29) = .bool true := hw 14 rfl
                refine run_wanted (j := 14) (d := 29) (b := true) rfl rfl hz (of_decide_eq_true rfl) eg ?_
                clear eg
                have e0 : ac.eval (.tmp 37) = (.bool false) := hw 22 rfl
                clear hd hz hf hw
                simp only [Oper.wp, execOp, resolve, List.map_toArray, List.map_cons, List.map_nil, Option.map_some, Option.map_none, e0]
                go_simp
                exact hK _ _ rfl (Same.refl _ _)
              · intro ac wc hs hd hz hf hw K hK
                have e0 : ac.eval (.tmp 29) = (.bool true) := hw 14 rfl
                have e1 : ac.eval (.tmp 38) = (.bool true) := hw 23 rfl
                clear hd hz hf hw
                simp only [Region.wanted, if_true, Oper.wp, execOp, resolve, List.map_toArray, List.map_cons, List.map_nil, Option.map_some, Option.map_none, e0, e1]
                go_simp
                exact hK _ _ rfl (Same.refl _ _)
            · intro wR hsR
              simp only [putAll, Act.put, List.setIfInBounds_toArray, List.set_cons_succ, List.set_cons_zero]
              have hr3 := Lib.hid (Hr2.out.keep hsR trivial)
              have hs3 := Lib.hid (HS.out.trans hsR)
              obtain ⟨a0, a1, a2, a3, a4, a5, a6, a7, a8, f0, f1, f2, f3, f4, f5, f6, f7, f8⟩ := lck_cells hr3.out
              simp only [Lck.zero] at a0 a1 a2 a3 a4 a5 a6 a7 a8
              have z6 := hr3.out.lt
              have y3 := hsR.cell (p := ⟨(ad.add (k * 12)).block, (ad.add (k * 12)).off + 3, none⟩) trivial c3
              have y4 := hsR.cell (p := ⟨(ad.add (k * 12)).block, (ad.add (k * 12)).off + 4, none⟩) trivial c4
              have y5 := hsR.cell (p := ⟨(ad.add (k * 12)).block, (ad.add (k * 12)).off + 5, none⟩) trivial c5
              have y6 := hsR.cell (p := ⟨(ad.add (k * 12)).block, (ad.add (k * 12)).off + 6, none⟩) trivial c6
              have y7 := hsR.cell (p := ⟨(ad.add (k * 12)).block, (ad.add (k * 12)).off + 7, none⟩) trivial c7
              have y8 := hsR.cell (p := ⟨(ad.add (k * 12)).block, (ad.add (k * 12)).off + 8, none⟩) trivial c8
              have y9 := hsR.cell (p := ⟨(ad.add (k * 12)).block, (ad.add (k * 12)).off + 9, none⟩) trivial c9
              have y10 := hsR.cell (p := ⟨(ad.add (k * 12)).block, (ad.add (k * 12)).off + 10, none⟩) trivial c10
              have y11 := hsR.cell (p := ⟨(ad.add (k * 12)).block, (ad.add (k * 12)).off + 11, none⟩) trivial c11
              clear hsR
              go_wp2
              obtain ⟨r1, r2⟩ := lck_set9 (b0 := .int .i64 c.lock.by_.node) (b1 := .int .i64 c.lock.by_.life) (b2 := .int .i64 c.lock.by_.seq) (b3 := .int .i64 c.lock.by_.attempt) (b4 := .int .i64 c.lock.home) (b5 := .int .i64 c.lock.at_.wall) (b6 := .int .i64 c.lock.at_.tie) (b7 := .bool c.lock.drop) (b8 := .string (str c.lock.data)) (by omega) hr3.out hs3.out
              rw [← Hgo.out]
              exact bodyPost_ret (refblocks_results (l := c.lock) r1 rfl rfl) rfl ⟨rfl, r2⟩
          · rw [hb] at gl hgo
            have Hgo := Lib.hid hgo
            clear hi' hl hgo hb
            go_wp2
            refine wp_region_eq_lit (vs := [(.slice (some ad) cs.length cp), (.int .i64 k), (.pointer (some (ad.add (k * 12)))), (.pointer (some (ad.add (k * 12)))), (.string (str c.key)), (.agg #[.string (str lo), .string (str hi)]), (.bool true), (.bool true), (.slice (some ad) cs.length cp), (.int .i64 k), (.pointer (some (ad.add (k * 12)))), (.pointer (some ⟨(ad.add (k * 12)).block, (ad.add (k * 12)).off + 2, none⟩)), (.bool true), (.bool true), (.bool true), (stV a), (.slice (some ad) cs.length cp), (.int .i64 k), (.pointer (some (ad.add (k * 12)))), (.pointer (some ⟨(ad.add (k * 12)).block, (ad.add (k * 12)).off + 3, none⟩)), (.pointer (some ⟨(ad.add (k * 12)).block, (ad.add (k * 12)).off + 8, none⟩)), (stV c.lock.at_), (.bool true), (.bool false), (.bool false)]) (by kernel_rfl) (by kernel_rfl) rfl rfl ?_ ?_
            · refine ⟨?_, ?_, ?_, ?_, ?_, ?_, ?_, ?_, ?_, ?_, ?_, ?_, ?_, ?_, ?_, ?_, ?_, ?_, ?_, ?_, ?_, ?_, ?_, ?_, ?_, trivial⟩
              · intro ac wc hs hd hz hf hw K hK
                have e0 : ac.eval (.tmp 0) = (.slice (some ad) cs.length cp) := hf 0 rfl
                clear hd hz hf hw
                simp only [Region.wanted, if_true, Oper.wp, execOp, resolve, List.map_toArray, List.map_cons, List.map_nil, Option.map_some, Option.map_none, e0]
                go_simp
                exact hK _ _ rfl (Same.refl _ _)
              · intro ac wc hs hd hz hf hw K hK
                have e0 : ac.eval (.tmp 8) = (.int .i64 k) := hf 8 rfl
                clear hd hz hf hw
                simp only [Region.wanted, if_true, Oper.wp, execOp, resolve, List.map_toArray, List.map_cons, List.map_nil, Option.map_some, Option.map_none, e0]
                go_simp
                exact hK _ _ rfl (Same.refl _ _)
              · intro ac wc hs hd hz hf hw K hK
                have e0 : ac.eval (.tmp 15) = (.slice (some ad) cs.length cp) := hw 0 rfl
                have e1 : ac.eval (.tmp 16) = (.int .i64 k) := hw 1 rfl
                clear hd hz hf hw
                simp only [Region.wanted, if_true, Oper.wp, execOp, resolve, List.map_toArray, List.map_cons, List.map_nil, Option.map_some, Option.map_none, e0, e1]
                go_simp
                exact hK _ _ rfl (Same.refl _ _)
              · intro ac wc hs hd hz hf hw K hK
                have e0 : ac.eval (.tmp 17) = (.pointer (some (ad.add (k * 12)))) := hw 2 rfl
                clear hd hz hf hw
                simp only [Region.wanted, if_true, Oper.wp, execOp, resolve, List.map_toArray, List.map_cons, List.map_nil, Option.map_some, Option.map_none, e0]
                go_simp
                exact hK _ _ rfl (Same.refl _ _)
              · intro ac wc hs hd hz hf hw K hK
                have e0 : ac.eval (.tmp 18) = (.pointer (some (ad.add (k * 12)))) := hw 3 rfl
                have m0 : wc.cell? (ad.add (k * 12)) = some (.string (str c.key)) := hs.cell (p := (ad.add (k * 12))) trivial c0
                clear hd hz hf hw
                simp only [Region.wanted, if_true, Oper.wp, execOp, resolve, List.map_toArray, List.map_cons, List.map_nil, Option.map_some, Option.map_none, e0]
                go_simp
                exact hK _ _ rfl (Same.refl _ _)
              · intro ac wc hs hd hz hf hw K hK
                have e0 : ac.eval (.tmp 4) = (.pointer (some ⟨w.heap.size, 0, none⟩)) := hf 4 rfl
                have m0 : wc.cell? ⟨w.heap.size, 0, none⟩ = some (.string (str lo)) := hs.cell (p := ⟨w.heap.size, 0, none⟩) trivial t0
                have m1 : wc.cell? ⟨w.heap.size, 1, none⟩ = some (.string (str hi)) := hs.cell (p := ⟨w.heap.size, 1, none⟩) trivial t1
                clear hd hz hf hw
                simp only [Region.wanted, if_true, Oper.wp, execOp, resolve, List.map_toArray, List.map_cons, List.map_nil, Option.map_some, Option.map_none, e0]
                go_simp
                exact hK _ _ rfl (Same.refl _ _)
              · intro ac wc hs hd hz hf hw K hK
                have e0 : ac.eval (.tmp 19) = (.string (str c.key)) := hw 4 rfl
                have e1 : ac.eval (.tmp 20) = (.agg #[.string (str lo), .string (str hi)]) := hw 5 rfl
                clear hd hz hf hw
                simp only [Region.wanted, if_true, Oper.wp, execOp, resolve, List.map_toArray, List.map_cons, List.map_nil, Option.map_some, Option.map_none, e0, e1]
                go_simp
                refine (gi _).mono ?_
                rintro e wd ⟨rfl, hs2⟩
                exact hK _ _ rfl hs2
              · intro ac wc hs hd hz hf hw K hK
                have e0 : ac.eval (.tmp 21) = (.bool true) := hw 6 rfl
                clear hd hz hf hw
                simp only [Region.wanted, if_true, Oper.wp, execOp, resolve, List.map_toArray, List.map_cons, List.map_nil, Option.map_some, Option.map_none, e0]
                go_simp
                exact hK _ _ rfl (Same.refl _ _)
              · intro ac wc hs hd hz hf hw K hK
                have eg : ac.eval (.tmp 22) = .bool true := hw 7 rfl
                refine run_wanted (j := 7) (d := 22) (b := true) rfl rfl hz (of_decide_eq_true rfl) eg ?_
                clear eg
                have e0 : ac.eval (.tmp 0) = (.slice (some ad) cs.length cp) := hf 0 rfl
                clear hd hz hf hw
                simp only [Oper.wp, execOp, resolve, List.map_toArray, List.map_cons, List.map_nil, Option.map_some, Option.map_none, e0]
                go_simp
                exact hK _ _ rfl (Same.refl _ _)
              · intro ac wc hs hd hz hf hw K hK
                have eg : ac.eval (.tmp 22) = .bool true := hw 7 rfl
                refine run_wanted (j := 7) (d := 22) (b := true) rfl rfl hz (of_decide_eq_true rfl) eg ?_
                clear eg
                have e0 : ac.eval (.tmp 8) = (.int .i64 k) := hf 8 rfl
                clear hd hz hf hw
                simp only [Oper.wp, execOp, resolve, List.map_toArray, List.map_cons, List.map_nil, Option.map_some, Option.map_none, e0]
                go_simp
                exact hK _ _ rfl (Same.refl _ _)
              · intro ac wc hs hd hz hf hw K hK
                have eg : ac.eval (.tmp 22) = .bool true := hw 7 rfl
                refine run_wanted (j := 7) (d := 22) (b := true) rfl rfl hz (of_decide_eq_true rfl) eg ?_
                clear eg
                have e0 : ac.eval (.tmp 23) = (.slice (some ad) cs.length cp) := hw 8 rfl
                have e1 : ac.eval (.tmp 24) = (.int .i64 k) := hw 9 rfl
                clear hd hz hf hw
                simp only [Oper.wp, execOp, resolve, List.map_toArray, List.map_cons, List.map_nil, Option.map_some, Option.map_none, e0, e1]
                go_simp
                exact hK _ _ rfl (Same.refl _ _)
              · intro ac wc hs hd hz hf hw K hK
                have eg : ac.eval (.tmp 22) = .bool true := hw 7 rfl
                refine run_wanted (j := 7) (d := 22) (b := true) rfl rfl hz (of_decide_eq_true rfl) eg ?_
                clear eg
                have e0 : ac.eval (.tmp 25) = (.pointer (some (ad.add (k * 12)))) := hw 10 rfl
                clear hd hz hf hw
                simp only [Oper.wp, execOp, resolve, List.map_toArray, List.map_cons, List.map_nil, Option.map_some, Option.map_none, e0]
                go_simp
                exact hK _ _ rfl (Same.refl _ _)
              · intro ac wc hs hd hz hf hw K hK
                have eg : ac.eval (.tmp 22) = .bool true := hw 7 rfl
                refine run_wanted (j := 7) (d := 22) (b := true) rfl rfl hz (of_decide_eq_true rfl) eg ?_
                clear eg
                have e0 : ac.eval (.tmp 26) = (.pointer (some ⟨(ad.add (k * 12)).block, (ad.add (k * 12)).off + 2, none⟩)) := hw 11 rfl
                have m0 : wc.cell? ⟨(ad.add (k * 12)).block, (ad.add (k * 12)).off + 2, none⟩ = some (.bool true) := hs.cell (p := ⟨(ad.add (k * 12)).block, (ad.add (k * 12)).off + 2, none⟩) trivial c2
                clear hd hz hf hw
                simp only [Oper.wp, execOp, resolve, List.map_toArray, List.map_cons, List.map_nil, Option.map_some, Option.map_none, e0]
                go_simp
                exact hK _ _ rfl (Same.refl _ _)
              · intro ac wc hs hd hz hf hw K hK
                have e0 : ac.eval (.tmp 22) = (.bool true) := hw 7 rfl
                have e1 : ac.eval (.tmp 27) = (.bool true) := hw 12 rfl
                clear hd hz hf hw
                simp only [Region.wanted, if_true, Oper.wp, execOp, resolve, List.map_toArray, List.map_cons, List.map_nil, Option.map_some, Option.map_none, e0, e1]
                go_simp
                exact hK _ _ rfl (Same.refl _ _)
              · intro ac wc hs hd hz hf hw K hK
                have e0 : ac.eval (.tmp 28) = (.bool true) := hw 13 rfl
                clear hd hz hf hw
                simp only [Region.wanted, if_true, Oper.wp, execOp, resolve, List.map_toArray, List.map_cons, List.map_nil, Option.map_some, Option.map_none, e0]
                go_simp
                exact hK _ _ rfl (Same.refl _ _)
              · intro ac wc hs hd hz hf hw K hK
                have eg : ac.eval (.tmp 29) = .bool true := hw 14 rfl
                refine run_wanted (j := 14) (d := 29) (b := true) rfl rfl hz (of_decide_eq_true rfl) eg ?_
                clear eg
                have e0 : ac.eval (.tmp 5) = (.pointer (some ⟨w.heap.size + 1, 0, none⟩)) := hf 5 rfl
                have m0 : wc.cell? ⟨w.heap.size + 1, 0, none⟩ = some (.int .i64 a.wall) := hs.cell (p := ⟨w.heap.size + 1, 0, none⟩) trivial s0
                have m1 : wc.cell? ⟨w.heap.size + 1, 1, none⟩ = some (.int .i64 a.tie) := hs.cell (p := ⟨w.heap.size + 1, 1, none⟩) trivial s1
                clear hd hz hf hw
                simp only [Oper.wp, execOp, resolve, List.map_toArray, List.map_cons, List.map_nil, Option.map_some, Option.map_none, e0]
                go_simp
                exact hK _ _ rfl (Same.refl _ _)
              · intro ac wc hs hd hz hf hw K hK
                have eg : ac.eval (.tmp 29) = .bool true := hw 14 rfl
                refine run_wanted (j := 14) (d := 29) (b := true) rfl rfl hz (of_decide_eq_true rfl) eg ?_
                clear eg
                have e0 : ac.eval (.tmp 0) = (.slice (some ad) cs.length cp) := hf 0 rfl
                clear hd hz hf hw
                simp only [Oper.wp, execOp, resolve, List.map_toArray, List.map_cons, List.map_nil, Option.map_some, Option.map_none, e0]
                go_simp
                exact hK _ _ rfl (Same.refl _ _)
              · intro ac wc hs hd hz hf hw K hK
                have eg : ac.eval (.tmp 29) = .bool true := hw 14 rfl
                refine run_wanted (j := 14) (d := 29) (b := true) rfl rfl hz (of_decide_eq_true rfl) eg ?_
                clear eg
                have e0 : ac.eval (.tmp 8) = (.int .i64 k) := hf 8 rfl
                clear hd hz hf hw
                simp only [Oper.wp, execOp, resolve, List.map_toArray, List.map_cons, List.map_nil, Option.map_some, Option.map_none, e0]
                go_simp
                exact hK _ _ rfl (Same.refl _ _)
              · intro ac wc hs hd hz hf hw K hK
                have eg : ac.eval (.tmp 29) = .bool true := hw 14 rfl
                refine run_wanted (j := 14) (d := 29) (b := true) rfl rfl hz (of_decide_eq_true rfl) eg ?_
                clear eg
                have e0 : ac.eval (.tmp 31) = (.slice (some ad) cs.length cp) := hw 16 rfl
                have e1 : ac.eval (.tmp 32) = (.int .i64 k) := hw 17 rfl
                clear hd hz hf hw
                simp only [Oper.wp, execOp, resolve, List.map_toArray, List.map_cons, List.map_nil, Option.map_some, Option.map_none, e0, e1]
                go_simp
                exact hK _ _ rfl (Same.refl _ _)
              · intro ac wc hs hd hz hf hw K hK
                have eg : ac.eval (.tmp 29) = .bool true := hw 14 rfl
                refine run_wanted (j := 14) (d := 29) (b := true) rfl rfl hz (of_decide_eq_true rfl) eg ?_
                clear eg
                have e0 : ac.eval (.tmp 33) = (.pointer (some (ad.add (k * 12)))) := hw 18 rfl
                clear hd hz hf hw
                simp only [Oper.wp, execOp, resolve, List.map_toArray, List.map_cons, List.map_nil, Option.map_some, Option.map_none, e0]
                go_simp
                exact hK _ _ rfl (Same.refl _ _)
              · intro ac wc hs hd hz hf hw K hK
                have eg : ac.eval (.tmp 29) = .bool true := hw 14 rfl
                refine run_wanted (j := 14) (d := 29) (b := true) rfl rfl hz (of_decide_eq_true rfl) eg ?_
                clear eg
                have e0 : ac.eval (.tmp 34) = (.pointer (some ⟨(ad.add (k * 12)).block, (ad.add (k * 12)).off + 3, none⟩)) := hw 19 rfl
                clear hd hz hf hw
                simp only [Oper.wp, execOp, resolve, List.map_toArray, List.map_cons, List.map_nil, Option.map_some, Option.map_none, e0]
                go_simp
                exact hK _ _ rfl (Same.refl _ _)
              · intro ac wc hs hd hz hf hw K hK
                have eg : ac.eval (.tmp 29) = .bool true := hw 14 rfl
                refine run_wanted (j := 14) (d := 29) (b := true) rfl rfl hz (of_decide_eq_true rfl) eg ?_
                clear eg
                have e0 : ac.eval (.tmp 35) = (.pointer (some ⟨(ad.add (k * 12)).block, (ad.add (k * 12)).off + 8, none⟩)) := hw 20 rfl
                have m0 : wc.cell? ⟨(ad.add (k * 12)).block, (ad.add (k * 12)).off + 8, none⟩ = some (.int .i64 c.lock.at_.wall) := hs.cell (p := ⟨(ad.add (k * 12)).block, (ad.add (k * 12)).off + 8, none⟩) trivial c8
                have m1 : wc.cell? ⟨(ad.add (k * 12)).block, (ad.add (k * 12)).off + 9, none⟩ = some (.int .i64 c.lock.at_.tie) := hs.cell (p := ⟨(ad.add (k * 12)).block, (ad.add (k * 12)).off + 9, none⟩) trivial c9
                clear hd hz hf hw
                simp only [Oper.wp, execOp, resolve, List.map_toArray, List.map_cons, List.map_nil, Option.map_some, Option.map_none, e0]
                go_simp
                exact hK _ _ rfl (Same.refl _ _)
              · intro ac wc hs hd hz hf hw K hK
                have eg : ac.eval (.tmp 29) = .bool true := hw 14 rfl
                refine run_wanted (j := 14) (d := 29) (b := true) rfl rfl hz (of_decide_eq_true rfl) eg ?_
                clear eg
                have e0 : ac.eval (.tmp 30) = (stV a) := hw 15 rfl
                have e1 : ac.eval (.tmp 36) = (stV c.lock.at_) := hw 21 rfl
                clear hd hz hf hw
                simp only [Oper.wp, execOp, resolve, List.map_toArray, List.map_cons, List.map_nil, Option.map_some, Option.map_none, e0, e1]
                go_simp
                refine (gl _).mono ?_
                rintro e wd ⟨rfl, hs2⟩
                exact hK _ _ rfl hs2
              · intro ac wc hs hd hz hf hw K hK
                have eg : ac.eval (.tmp 29) = .bool true := hw 14 rfl
                refine run_wanted (j := 14) (d := 29) (b := true) rfl rfl hz (of_decide_eq_true rfl) eg ?_
                clear eg
                have e0 : ac.eval (.tmp 37) = (.bool true) := hw 22 rfl
                clear hd hz hf hw
                simp only [Oper.wp, execOp, resolve, List.map_toArray, List.map_cons, List.map_nil, Option.map_some, Option.map_none, e0]
                go_simp
                exact hK _ _ rfl (Same.refl _ _)
              · intro ac wc hs hd hz hf hw K hK
                have e0 : ac.eval (.tmp 29) = (.bool true) := hw 14 rfl
                have e1 : ac.eval (.tmp 38) = (.bool false) := hw 23 rfl
                clear hd hz hf hw
                simp only [Region.wanted, if_true, Oper.wp, execOp, resolve, List.map_toArray, List.map_cons, List.map_nil, Option.map_some, Option.map_none, e0, e1]
                go_simp
                exact hK _ _ rfl (Same.refl _ _)
            · intro wR hsR
              simp only [putAll, Act.put, List.setIfInBounds_toArray, List.set_cons_succ, List.set_cons_zero]
              go_wp2
              go_roundw
              case rel => exact ⟨k + 1, by go_num, Hrel.out.keep hsR (by omega) Hgo.out⟩
              case measure => simp [intOf]; omega
    · obtain rfl : k = cs.length := by omega
      rw [List.drop_eq_nil_of_le (Nat.le_refl _)] at hgo
      have hgo' : R = (Lck.zero, false) := hgo.symm
      have Hgo := Lib.hid hgo'
      clear hgo hgo' hr0 hr1 hS
      obtain ⟨a0, a1, a2, a3, a4, a5, a6, a7, a8, f0, f1, f2, f3, f4, f5, f6, f7, f8⟩ := lck_cells hr2
      simp only [Lck.zero] at a0 a1 a2 a3 a4 a5 a6 a7 a8
      clear hr2
      go_wp2
      obtain ⟨r1, r2⟩ := lck_set9 (b0 := .int .i64 0) (b1 := .int .i64 0) (b2 := .int .i64 0) (b3 := .int .i64 0) (b4 := .int .i64 0) (b5 := .int .i64 0) (b6 := .int .i64 0) (b7 := .bool false) (b8 := .string ⟨#[]⟩) (by omega) Hr2.out HS.out
      rw [Hgo.out]
      exact bodyPost_ret (refblocks_results (l := Lck.zero) r1 rfl rfl) rfl ⟨rfl, r2⟩
end Go.Proofs.Ytoldelocfmpccaa
namespace Go.Proofs.Ytoldelocfmpccaa
open Go.RowKit
theorem within_take {cs : List Cel} {lo hi : List UInt8} {k : Nat} (h : k < cs.length) : withinF (cs.take (k + 1)) lo hi = withinF (cs.take k) lo hi ++ (if inB lo hi cs[k].key then [cs[k]] else []) := by
  unfold withinF
  rw [List.take_succ_eq_append_getElem h, List.filter_append]
  congr 1
  rw [List.filter_cons]
  split <;> rfl
theorem got_le (a : St) (cs : List Cel) (lo hi : List UInt8) (k : Nat) : (gotF a cs lo hi k).length ≤ k :=
  Nat.le_trans (pairs_len _ _) (Nat.le_trans (List.length_filter_le _ _) (List.length_take_le _ _))
theorem got_out {a : St} {cs : List Cel} {lo hi : List UInt8} {k : Nat} (h : k < cs.length) (hi' : inB lo hi cs[k].key = false) : gotF a cs lo hi (k + 1) = gotF a cs lo hi k := by
  unfold gotF
  rw [within_take h, hi']
  simp
theorem got_in {a : St} {cs : List Cel} {lo hi : List UInt8} {k : Nat} (h : k < cs.length) (hi' : inB lo hi cs[k].key = true) : gotF a cs lo hi (k + 1) = gotF a cs lo hi k ++ pairF a cs[k] := by
  unfold gotF
  rw [within_take h, hi']
  unfold pairsF
  simp
set_option maxRecDepth 100000 in
set_option maxHeartbeats 2000000 in
theorem refscan_any (v : Value) (cs : List Cel) (lo hi : List UInt8) (a : St) (most : Int) (S : Nat → Prop) (w : World) (hv : CelR w S v cs) (hn : cs.length ≤ 1000000) :
    Calls Try.prog 54 #[v, .agg #[.string (str lo), .string (str hi)], stV a, .int .i64 most] w (ScanP (scanF cs lo hi a most) w) := by
  obtain ⟨A, cp, rfl, hc, hm⟩ := hv.form
  have Hv := Lib.hid hv
  unfold maxLen at hm
  have K : scanF cs lo hi a most = if max most 0 < ((gotF a cs lo hi cs.length).length : Int) then ([], 3) else (gotF a cs lo hi cs.length, 0) := by unfold scanF gotF; rw [List.take_length]
  have HK := Lib.hid K
  obtain ⟨W0, hW0⟩ : ∃ W0, W0 = (w.alloc (.cells #[.string (str lo), .string (str hi)] 53)).alloc (.cells (stCs a).toArray 28) := ⟨_, rfl⟩
  have hrel0 : RScanRel a cs lo hi 0 (w.heap.size + 2) (.slice none 0 0) w W0 := by
    have hr0 := (Row.new w 53 [.string (str lo), .string (str hi)]).keep ((Same.refl (fun _ => True) _).alloc (.cells (stCs a).toArray 28)) trivial
    have hr1 := Row.new (w.alloc (.cells #[.string (str lo), .string (str hi)] 53)) 28 (stCs a)
    rw [World.size_alloc] at hr1
    rw [hW0]
    exact ⟨Nat.zero_le _, by unfold gotF; simp [pairsF, withinF]; exact OwnR.nil _ _, Nat.le_refl _, by rw [World.size_alloc, World.size_alloc]; omega, hr0, hr1, ((Same.refl _ _).alloc _).alloc _⟩
  have Hrel0 := Lib.hid hrel0
  have HW0 := Lib.hid hW0
  clear K hv hW0 hrel0
  go_enter Try.func54, Try.ntmps54
  go_wp2
  have e0 := HW0.out
  simp only [stCs] at e0
  rw [← e0]
  clear e0
  go_loopw [10, 11, 12, 13] (fun l i _ _ wr => ∃ k : Nat, i = .int .i64 k ∧ RScanRel a cs lo hi k (w.heap.size + 2) l w wr) (fun _ i _ _ _ => cs.length - (intOf i).toNat)
  case atStart => exact ⟨0, rfl, Hrel0.out⟩
  case round =>
    obtain ⟨k, rfl, hrel⟩ := hrel
    have Hrel := Lib.hid hrel
    obtain ⟨hk, hown, hB1, hB2, hr0, hr1, hS⟩ := hrel
    have HS := Lib.hid hS
    have Hown := Lib.hid hown
    have Hr0 := Lib.hid hr0
    have Hr1 := Lib.hid hr1
    obtain ⟨Al, cl, rfl, hl1, hl2⟩ := hown.form
    unfold maxLen at hl2
    have t0 : wr.cell? ⟨w.heap.size, 0, none⟩ = some (.string (str lo)) := hr0.cell 0
    have t1 : wr.cell? ⟨w.heap.size, 1, none⟩ = some (.string (str hi)) := hr0.cell 1
    have hgl := got_le a cs lo hi k
    by_cases hlt : k < cs.length
    · obtain ⟨ad, u, rfl, -, hvr, c0, c1, c2, c3, c4, c5, c6, c7, c8, c9, c10, c11⟩ := CelR.cells12 (Hv.out.keepAll hS) hlt
      obtain ⟨Au, cu, rfl, -, -⟩ := hvr.form
      have x1 : (0 : Int) ≤ (k : Int) := by omega
      have x2 : (k : Int) < (cs.length : Int) := by omega
      have go := @got_out a cs lo hi k hlt
      have gn := @got_in a cs lo hi k hlt
      have Hvr := Lib.hid hvr
      clear hvr
      generalize cs[k] = c at *
      have gt := fun W hv' => refof_any (.slice Au c.vers.length cu) c a S W hv'
      have gi := fun W => refin_any c.key lo hi W
      clear hr0 hr1 hS hown
      cases hi' : inB lo hi c.key
      · rw [hi'] at gi
        have Hgo := Lib.hid (go hi')
        clear hi' go gn gt
        go_wp2
        refine wp_region_eq_lit (vs := [(.slice (some ad) cs.length cp), (.int .i64 k), (.pointer (some (ad.add (k * 12)))), (.pointer (some (ad.add (k * 12)))), (.string (str c.key)), (.agg #[.string (str lo), .string (str hi)]), (.bool false), (.bool true)]) (by kernel_rfl) (by kernel_rfl) rfl rfl ?_ ?_
        · refine ⟨?_, ?_, ?_, ?_, ?_, ?_, ?_, ?_, trivial⟩
          · intro ac wc hs hd hz hf hw K hK
            have e0 : ac.eval (.tmp 0) = (.slice (some ad) cs.length cp) := hf 0 rfl
            clear hd hz hf hw
            simp only [Region.wanted, if_true, Oper.wp, execOp, resolve, List.map_toArray, List.map_cons, List.map_nil, Option.map_some, Option.map_none, e0]
            go_simp
            exact hK _ _ rfl (Same.refl _ _)
          · intro ac wc hs hd hz hf hw K hK
            have e0 : ac.eval (.tmp 11) = (.int .i64 k) := hf 11 rfl
            clear hd hz hf hw
            simp only [Region.wanted, if_true, Oper.wp, execOp, resolve, List.map_toArray, List.map_cons, List.map_nil, Option.map_some, Option.map_none, e0]
            go_simp
            exact hK _ _ rfl (Same.refl _ _)
          · intro ac wc hs hd hz hf hw K hK
            have e0 : ac.eval (.tmp 20) = (.slice (some ad) cs.length cp) := hw 0 rfl
            have e1 : ac.eval (.tmp 21) = (.int .i64 k) := hw 1 rfl
            clear hd hz hf hw
            simp only [Region.wanted, if_true, Oper.wp, execOp, resolve, List.map_toArray, List.map_cons, List.map_nil, Option.map_some, Option.map_none, e0, e1]
            go_simp
            exact hK _ _ rfl (Same.refl _ _)
          · intro ac wc hs hd hz hf hw K hK
            have e0 : ac.eval (.tmp 22) = (.pointer (some (ad.add (k * 12)))) := hw 2 rfl
            clear hd hz hf hw
            simp only [Region.wanted, if_true, Oper.wp, execOp, resolve, List.map_toArray, List.map_cons, List.map_nil, Option.map_some, Option.map_none, e0]
            go_simp
            exact hK _ _ rfl (Same.refl _ _)
          · intro ac wc hs hd hz hf hw K hK
            have e0 : ac.eval (.tmp 23) = (.pointer (some (ad.add (k * 12)))) := hw 3 rfl
            have m0 : wc.cell? (ad.add (k * 12)) = some (.string (str c.key)) := hs.cell (p := (ad.add (k * 12))) trivial c0
            clear hd hz hf hw
            simp only [Region.wanted, if_true, Oper.wp, execOp, resolve, List.map_toArray, List.map_cons, List.map_nil, Option.map_some, Option.map_none, e0]
            go_simp
            exact hK _ _ rfl (Same.refl _ _)
          · intro ac wc hs hd hz hf hw K hK
            have e0 : ac.eval (.tmp 5) = (.pointer (some ⟨w.heap.size, 0, none⟩)) := hf 5 rfl
            have m0 : wc.cell? ⟨w.heap.size, 0, none⟩ = some (.string (str lo)) := hs.cell (p := ⟨w.heap.size, 0, none⟩) trivial t0
            have m1 : wc.cell? ⟨w.heap.size, 1, none⟩ = some (.string (str hi)) := hs.cell (p := ⟨w.heap.size, 1, none⟩) trivial t1
            clear hd hz hf hw
            simp only [Region.wanted, if_true, Oper.wp, execOp, resolve, List.map_toArray, List.map_cons, List.map_nil, Option.map_some, Option.map_none, e0]
            go_simp
            exact hK _ _ rfl (Same.refl _ _)
          · intro ac wc hs hd hz hf hw K hK
            have e0 : ac.eval (.tmp 24) = (.string (str c.key)) := hw 4 rfl
            have e1 : ac.eval (.tmp 25) = (.agg #[.string (str lo), .string (str hi)]) := hw 5 rfl
            clear hd hz hf hw
            simp only [Region.wanted, if_true, Oper.wp, execOp, resolve, List.map_toArray, List.map_cons, List.map_nil, Option.map_some, Option.map_none, e0, e1]
            go_simp
            refine (gi _).mono ?_
            rintro e wd ⟨rfl, hs2⟩
            exact hK _ _ rfl hs2
          · intro ac wc hs hd hz hf hw K hK
            have e0 : ac.eval (.tmp 26) = (.bool false) := hw 6 rfl
            clear hd hz hf hw
            simp only [Region.wanted, if_true, Oper.wp, execOp, resolve, List.map_toArray, List.map_cons, List.map_nil, Option.map_some, Option.map_none, e0]
            go_simp
            exact hK _ _ rfl (Same.refl _ _)
        · intro wR hsR
          simp only [putAll, Act.put, List.setIfInBounds_toArray, List.set_cons_succ, List.set_cons_zero]
          go_wp2
          go_roundw
          case rel => exact ⟨k + 1, by go_num, Hrel.out.keep hsR (by omega) Hgo.out⟩
          case measure => simp [intOf]; omega
      · rw [hi'] at gi
        have hgn := gn hi'
        clear hi' go gn
        obtain ⟨tb, td, htd⟩ : ∃ tb td, tellsF c.vers a = (td, tb) := ⟨_, _, rfl⟩
        rw [htd] at gt
        have hpf : pairF a c = if tb then [(c.key, td)] else [] := by unfold pairF; rw [htd]
        rw [hpf] at hgn
        have Hgn := Lib.hid hgn
        clear htd hpf hgn
        go_wp2
        refine wp_region_eq_lit (vs := [(.slice (some ad) cs.length cp), (.int .i64 k), (.pointer (some (ad.add (k * 12)))), (.pointer (some (ad.add (k * 12)))), (.string (str c.key)), (.agg #[.string (str lo), .string (str hi)]), (.bool true), (.bool false)]) (by kernel_rfl) (by kernel_rfl) rfl rfl ?_ ?_
        · refine ⟨?_, ?_, ?_, ?_, ?_, ?_, ?_, ?_, trivial⟩
          · intro ac wc hs hd hz hf hw K hK
            have e0 : ac.eval (.tmp 0) = (.slice (some ad) cs.length cp) := hf 0 rfl
            clear hd hz hf hw
            simp only [Region.wanted, if_true, Oper.wp, execOp, resolve, List.map_toArray, List.map_cons, List.map_nil, Option.map_some, Option.map_none, e0]
            go_simp
            exact hK _ _ rfl (Same.refl _ _)
          · intro ac wc hs hd hz hf hw K hK
            have e0 : ac.eval (.tmp 11) = (.int .i64 k) := hf 11 rfl
            clear hd hz hf hw
            simp only [Region.wanted, if_true, Oper.wp, execOp, resolve, List.map_toArray, List.map_cons, List.map_nil, Option.map_some, Option.map_none, e0]
            go_simp
            exact hK _ _ rfl (Same.refl _ _)
          · intro ac wc hs hd hz hf hw K hK
            have e0 : ac.eval (.tmp 20) = (.slice (some ad) cs.length cp) := hw 0 rfl
            have e1 : ac.eval (.tmp 21) = (.int .i64 k) := hw 1 rfl
            clear hd hz hf hw
            simp only [Region.wanted, if_true, Oper.wp, execOp, resolve, List.map_toArray, List.map_cons, List.map_nil, Option.map_some, Option.map_none, e0, e1]
            go_simp
            exact hK _ _ rfl (Same.refl _ _)
          · intro ac wc hs hd hz hf hw K hK
            have e0 : ac.eval (.tmp 22) = (.pointer (some (ad.add (k * 12)))) := hw 2 rfl
            clear hd hz hf hw
            simp only [Region.wanted, if_true, Oper.wp, execOp, resolve, List.map_toArray, List.map_cons, List.map_nil, Option.map_some, Option.map_none, e0]
            go_simp
            exact hK _ _ rfl (Same.refl _ _)
          · intro ac wc hs hd hz hf hw K hK
            have e0 : ac.eval (.tmp 23) = (.pointer (some (ad.add (k * 12)))) := hw 3 rfl
            have m0 : wc.cell? (ad.add (k * 12)) = some (.string (str c.key)) := hs.cell (p := (ad.add (k * 12))) trivial c0
            clear hd hz hf hw
            simp only [Region.wanted, if_true, Oper.wp, execOp, resolve, List.map_toArray, List.map_cons, List.map_nil, Option.map_some, Option.map_none, e0]
            go_simp
            exact hK _ _ rfl (Same.refl _ _)
          · intro ac wc hs hd hz hf hw K hK
            have e0 : ac.eval (.tmp 5) = (.pointer (some ⟨w.heap.size, 0, none⟩)) := hf 5 rfl
            have m0 : wc.cell? ⟨w.heap.size, 0, none⟩ = some (.string (str lo)) := hs.cell (p := ⟨w.heap.size, 0, none⟩) trivial t0
            have m1 : wc.cell? ⟨w.heap.size, 1, none⟩ = some (.string (str hi)) := hs.cell (p := ⟨w.heap.size, 1, none⟩) trivial t1
            clear hd hz hf hw
            simp only [Region.wanted, if_true, Oper.wp, execOp, resolve, List.map_toArray, List.map_cons, List.map_nil, Option.map_some, Option.map_none, e0]
            go_simp
            exact hK _ _ rfl (Same.refl _ _)
          · intro ac wc hs hd hz hf hw K hK
            have e0 : ac.eval (.tmp 24) = (.string (str c.key)) := hw 4 rfl
            have e1 : ac.eval (.tmp 25) = (.agg #[.string (str lo), .string (str hi)]) := hw 5 rfl
            clear hd hz hf hw
            simp only [Region.wanted, if_true, Oper.wp, execOp, resolve, List.map_toArray, List.map_cons, List.map_nil, Option.map_some, Option.map_none, e0, e1]
            go_simp
            refine (gi _).mono ?_
            rintro e wd ⟨rfl, hs2⟩
            exact hK _ _ rfl hs2
          · intro ac wc hs hd hz hf hw K hK
            have e0 : ac.eval (.tmp 26) = (.bool true) := hw 6 rfl
            clear hd hz hf hw
            simp only [Region.wanted, if_true, Oper.wp, execOp, resolve, List.map_toArray, List.map_cons, List.map_nil, Option.map_some, Option.map_none, e0]
            go_simp
            exact hK _ _ rfl (Same.refl _ _)
        · intro wA hsA
          simp only [putAll, Act.put, List.setIfInBounds_toArray, List.set_cons_succ, List.set_cons_zero]
          have y0 := hsA.cell (p := (ad.add (k * 12))) trivial c0
          have y1 := hsA.cell (p := ⟨(ad.add (k * 12)).block, (ad.add (k * 12)).off + 1, none⟩) trivial c1
          have y2 := hsA.cell (p := ⟨(ad.add (k * 12)).block, (ad.add (k * 12)).off + 2, none⟩) trivial c2
          have y3 := hsA.cell (p := ⟨(ad.add (k * 12)).block, (ad.add (k * 12)).off + 3, none⟩) trivial c3
          have y4 := hsA.cell (p := ⟨(ad.add (k * 12)).block, (ad.add (k * 12)).off + 4, none⟩) trivial c4
          have y5 := hsA.cell (p := ⟨(ad.add (k * 12)).block, (ad.add (k * 12)).off + 5, none⟩) trivial c5
          have y6 := hsA.cell (p := ⟨(ad.add (k * 12)).block, (ad.add (k * 12)).off + 6, none⟩) trivial c6
          have y7 := hsA.cell (p := ⟨(ad.add (k * 12)).block, (ad.add (k * 12)).off + 7, none⟩) trivial c7
          have y8 := hsA.cell (p := ⟨(ad.add (k * 12)).block, (ad.add (k * 12)).off + 8, none⟩) trivial c8
          have y9 := hsA.cell (p := ⟨(ad.add (k * 12)).block, (ad.add (k * 12)).off + 9, none⟩) trivial c9
          have y10 := hsA.cell (p := ⟨(ad.add (k * 12)).block, (ad.add (k * 12)).off + 10, none⟩) trivial c10
          have y11 := hsA.cell (p := ⟨(ad.add (k * 12)).block, (ad.add (k * 12)).off + 11, none⟩) trivial c11
          have s0 : wA.cell? ⟨w.heap.size + 1, 0, none⟩ = some (.int .i64 a.wall) := (Hr1.out.keep hsA trivial).cell 0
          have s1 : wA.cell? ⟨w.heap.size + 1, 1, none⟩ = some (.int .i64 a.tie) := (Hr1.out.keep hsA trivial).cell 1
          clear c0 c1 c2 c3 c4 c5 c6 c7 c8 c9 c10 c11 t0 t1
          go_wp2
          refine wp_region_eq_lit (vs := [(.slice (some ad) cs.length cp), (.int .i64 k), (.pointer (some (ad.add (k * 12)))), (celV (.slice Au c.vers.length cu) c), (stV a), (.tuple #[.string (str td), .bool tb]), (.tuple #[.string (str td), .bool tb]), (.string (str td)), (.bool tb), (.string (str td)), (.bool tb)]) (by kernel_rfl) (by kernel_rfl) rfl rfl ?_ ?_
          · refine ⟨?_, ?_, ?_, ?_, ?_, ?_, ?_, ?_, ?_, ?_, ?_, trivial⟩
            · intro ac wc hs hd hz hf hw K hK
              have e0 : ac.eval (.tmp 0) = (.slice (some ad) cs.length cp) := hf 0 rfl
              clear hd hz hf hw
              simp only [Region.wanted, if_true, Oper.wp, execOp, resolve, List.map_toArray, List.map_cons, List.map_nil, Option.map_some, Option.map_none, e0]
              go_simp
              exact hK _ _ rfl (Same.refl _ _)
            · intro ac wc hs hd hz hf hw K hK
              have e0 : ac.eval (.tmp 11) = (.int .i64 k) := hf 11 rfl
              clear hd hz hf hw
              simp only [Region.wanted, if_true, Oper.wp, execOp, resolve, List.map_toArray, List.map_cons, List.map_nil, Option.map_some, Option.map_none, e0]
              go_simp
              exact hK _ _ rfl (Same.refl _ _)
            · intro ac wc hs hd hz hf hw K hK
              have e0 : ac.eval (.tmp 29) = (.slice (some ad) cs.length cp) := hw 0 rfl
              have e1 : ac.eval (.tmp 30) = (.int .i64 k) := hw 1 rfl
              clear hd hz hf hw
              simp only [Region.wanted, if_true, Oper.wp, execOp, resolve, List.map_toArray, List.map_cons, List.map_nil, Option.map_some, Option.map_none, e0, e1]
              go_simp
              exact hK _ _ rfl (Same.refl _ _)
            · intro ac wc hs hd hz hf hw K hK
              have e0 : ac.eval (.tmp 31) = (.pointer (some (ad.add (k * 12)))) := hw 2 rfl
              have m0 : wc.cell? (ad.add (k * 12)) = some (.string (str c.key)) := hs.cell (p := (ad.add (k * 12))) trivial y0
              have m1 : wc.cell? ⟨(ad.add (k * 12)).block, (ad.add (k * 12)).off + 1, none⟩ = some (.slice Au c.vers.length cu) := hs.cell (p := ⟨(ad.add (k * 12)).block, (ad.add (k * 12)).off + 1, none⟩) trivial y1
              have m2 : wc.cell? ⟨(ad.add (k * 12)).block, (ad.add (k * 12)).off + 2, none⟩ = some (.bool c.locked) := hs.cell (p := ⟨(ad.add (k * 12)).block, (ad.add (k * 12)).off + 2, none⟩) trivial y2
              have m3 : wc.cell? ⟨(ad.add (k * 12)).block, (ad.add (k * 12)).off + 3, none⟩ = some (.int .i64 c.lock.by_.node) := hs.cell (p := ⟨(ad.add (k * 12)).block, (ad.add (k * 12)).off + 3, none⟩) trivial y3
              have m4 : wc.cell? ⟨(ad.add (k * 12)).block, (ad.add (k * 12)).off + 4, none⟩ = some (.int .i64 c.lock.by_.life) := hs.cell (p := ⟨(ad.add (k * 12)).block, (ad.add (k * 12)).off + 4, none⟩) trivial y4
              have m5 : wc.cell? ⟨(ad.add (k * 12)).block, (ad.add (k * 12)).off + 5, none⟩ = some (.int .i64 c.lock.by_.seq) := hs.cell (p := ⟨(ad.add (k * 12)).block, (ad.add (k * 12)).off + 5, none⟩) trivial y5
              have m6 : wc.cell? ⟨(ad.add (k * 12)).block, (ad.add (k * 12)).off + 6, none⟩ = some (.int .i64 c.lock.by_.attempt) := hs.cell (p := ⟨(ad.add (k * 12)).block, (ad.add (k * 12)).off + 6, none⟩) trivial y6
              have m7 : wc.cell? ⟨(ad.add (k * 12)).block, (ad.add (k * 12)).off + 7, none⟩ = some (.int .i64 c.lock.home) := hs.cell (p := ⟨(ad.add (k * 12)).block, (ad.add (k * 12)).off + 7, none⟩) trivial y7
              have m8 : wc.cell? ⟨(ad.add (k * 12)).block, (ad.add (k * 12)).off + 8, none⟩ = some (.int .i64 c.lock.at_.wall) := hs.cell (p := ⟨(ad.add (k * 12)).block, (ad.add (k * 12)).off + 8, none⟩) trivial y8
              have m9 : wc.cell? ⟨(ad.add (k * 12)).block, (ad.add (k * 12)).off + 9, none⟩ = some (.int .i64 c.lock.at_.tie) := hs.cell (p := ⟨(ad.add (k * 12)).block, (ad.add (k * 12)).off + 9, none⟩) trivial y9
              have m10 : wc.cell? ⟨(ad.add (k * 12)).block, (ad.add (k * 12)).off + 10, none⟩ = some (.bool c.lock.drop) := hs.cell (p := ⟨(ad.add (k * 12)).block, (ad.add (k * 12)).off + 10, none⟩) trivial y10
              have m11 : wc.cell? ⟨(ad.add (k * 12)).block, (ad.add (k * 12)).off + 11, none⟩ = some (.string (str c.lock.data)) := hs.cell (p := ⟨(ad.add (k * 12)).block, (ad.add (k * 12)).off + 11, none⟩) trivial y11
              clear hd hz hf hw
              simp only [Region.wanted, if_true, Oper.wp, execOp, resolve, List.map_toArray, List.map_cons, List.map_nil, Option.map_some, Option.map_none, e0]
              go_simp
              exact hK _ _ rfl (Same.refl _ _)
            · intro ac wc hs hd hz hf hw K hK
              have e0 : ac.eval (.tmp 6) = (.pointer (some ⟨w.heap.size + 1, 0, none⟩)) := hf 6 rfl
              have m0 : wc.cell? ⟨w.heap.size + 1, 0, none⟩ = some (.int .i64 a.wall) := hs.cell (p := ⟨w.heap.size + 1, 0, none⟩) trivial s0
              have m1 : wc.cell? ⟨w.heap.size + 1, 1, none⟩ = some (.int .i64 a.tie) := hs.cell (p := ⟨w.heap.size + 1, 1, none⟩) trivial s1
              clear hd hz hf hw
              simp only [Region.wanted, if_true, Oper.wp, execOp, resolve, List.map_toArray, List.map_cons, List.map_nil, Option.map_some, Option.map_none, e0]
              go_simp
              exact hK _ _ rfl (Same.refl _ _)
            · intro ac wc hs hd hz hf hw K hK
              have e0 : ac.eval (.tmp 32) = (celV (.slice Au c.vers.length cu) c) := hw 3 rfl
              have e1 : ac.eval (.tmp 33) = (stV a) := hw 4 rfl
              clear hd hz hf hw
              simp only [Region.wanted, if_true, Oper.wp, execOp, resolve, List.map_toArray, List.map_cons, List.map_nil, Option.map_some, Option.map_none, e0, e1]
              go_simp
              refine (gt wc (RowR.keepAll Hvr.out (hsA.trans hs))).mono ?_
              rintro e wd ⟨rfl, hs2⟩
              exact hK _ _ rfl hs2
            · intro ac wc hs hd hz hf hw K hK
              have e0 : ac.eval (.tmp 34) = (.tuple #[.string (str td), .bool tb]) := hw 5 rfl
              clear hd hz hf hw
              simp only [Region.wanted, if_true, Oper.wp, execOp, resolve, List.map_toArray, List.map_cons, List.map_nil, Option.map_some, Option.map_none, e0]
              go_simp
              exact hK _ _ rfl (Same.refl _ _)
            · intro ac wc hs hd hz hf hw K hK
              have e0 : ac.eval (.tmp 28) = (.tuple #[.string (str td), .bool tb]) := hw 6 rfl
              clear hd hz hf hw
              simp only [Region.wanted, if_true, Oper.wp, execOp, resolve, List.map_toArray, List.map_cons, List.map_nil, Option.map_some, Option.map_none, e0]
              go_simp
              exact hK _ _ rfl (Same.refl _ _)
            · intro ac wc hs hd hz hf hw K hK
              have e0 : ac.eval (.tmp 28) = (.tuple #[.string (str td), .bool tb]) := hw 6 rfl
              clear hd hz hf hw
              simp only [Region.wanted, if_true, Oper.wp, execOp, resolve, List.map_toArray, List.map_cons, List.map_nil, Option.map_some, Option.map_none, e0]
              go_simp
              exact hK _ _ rfl (Same.refl _ _)
            · intro ac wc hs hd hz hf hw K hK
              have e0 : ac.eval (.tmp 35) = (.string (str td)) := hw 7 rfl
              clear hd hz hf hw
              simp only [Region.wanted, if_true, Oper.wp, execOp, resolve, List.map_toArray, List.map_cons, List.map_nil, Option.map_some, Option.map_none, e0]
              go_simp
              exact hK _ _ rfl (Same.refl _ _)
            · intro ac wc hs hd hz hf hw K hK
              have e0 : ac.eval (.tmp 36) = (.bool tb) := hw 8 rfl
              clear hd hz hf hw
              simp only [Region.wanted, if_true, Oper.wp, execOp, resolve, List.map_toArray, List.map_cons, List.map_nil, Option.map_some, Option.map_none, e0]
              go_simp
              exact hK _ _ rfl (Same.refl _ _)
          · intro wB hsB
            simp only [putAll, Act.put, List.setIfInBounds_toArray, List.set_cons_succ, List.set_cons_zero]
            have hS6 := hsA.trans hsB
            have k0 := hsB.cell (p := (ad.add (k * 12))) trivial y0
            have HS6 := Lib.hid hS6
            clear y0 y1 y2 y3 y4 y5 y6 y7 y8 y9 y10 y11 s0 s1 gt gi hsA hsB hS6
            cases tb
            · go_wp2
              go_roundw
              case rel => exact ⟨k + 1, by go_num, Hrel.out.keep HS6.out (by omega) (by rw [Hgn.out]; simp)⟩
              case measure => simp [intOf]; omega
            · go_wp2_with (at_builtin; refine stopAt ?_)
              unfold Hid
              refine wpList_appR1 TP (fun _ => rfl) pairCs_one (c := (c.key, td)) rfl (.tmp 38) (.tmp 46) rfl rfl rfl rfl (Hown.out.keepAll HS6.out) (by have := HS6.out.size; omega) (by simp only [maxLen]; omega) (by omega) ?_
              intro v' w7 hown7 hS7
              have Hown7 := Lib.hid hown7
              have HS7 := Lib.hid hS7
              clear hown7 hS7 k0
              go_wp2
              go_roundw
              case rel =>
                have t5 := HS.out.trans HS6.out
                have t6 := t5.trans' HS7.out fun _ h _ => by omega
                have t7 := HS6.out.size
                have t8 := HS7.out.size
                exact ⟨k + 1, by go_num, by omega, by rw [Hgn.out]; exact Hown7.out, hB1, by omega, (Hr0.out.keep HS6.out trivial).keep HS7.out (by omega), (Hr1.out.keep HS6.out trivial).keep HS7.out (by omega), t6⟩
              case measure => simp [intOf]; omega
    · obtain rfl : k = cs.length := by omega
      have x1 : ¬ (cs.length : Int) < (cs.length : Int) := by omega
      clear hr0 hr1 hS hown t0 t1
      by_cases hmx : max most 0 < ((gotF a cs lo hi cs.length).length : Int)
      · have z : max (most : Int) 0 = (max most 0) := rfl
        have HM := Lib.hid hmx
        rcases Int.le_total most 0 with hm0 | hm0
        · have hmx' : (0 : Int) < ((gotF a cs lo hi cs.length).length : Int) := by omega
          clear hmx
          go_wp2
          go_ret2
          rw [HK.out, if_pos HM.out]
          exact ⟨_, rfl, OwnR.nil _ _, HS.out⟩
        · have hmx' : most < ((gotF a cs lo hi cs.length).length : Int) := by omega
          clear hmx
          go_wp2
          go_ret2
          rw [HK.out, if_pos HM.out]
          exact ⟨_, rfl, OwnR.nil _ _, HS.out⟩
      · have HM := Lib.hid hmx
        go_wp2
        go_ret2
        rw [HK.out, if_neg (Int.not_lt.2 HM.out)]
        exact ⟨_, rfl, own_lower Hown.out (by omega), HS.out⟩
end Go.Proofs.Ytoldelocfmpccaa
namespace Go.Proofs.Ytoldelocfmpccaa
theorem less_le {a b c : St} (h1 : lessB a b = false) (h2 : lessB b c = false) : lessB a c = false := by
  rw [less_no] at *; omega
theorem norm_drop (a : St) (d : List UInt8) : ∀ l : List Ver, normT (foldT a (d, false) l) = normT (foldT a ([], false) l)
  | [] => rfl
  | x :: l => by
    rw [foldT_cons, foldT_cons]
    cases lessB a x.at_
    · rfl
    · exact norm_drop a d l
theorem tells_trim {a b : St} (hab : lessB b a = false) (l : List Ver) : tellsF (trimV l a) b = tellsF l b := by
  rw [tells_fold, tells_fold]
  unfold trimV
  rcases trim_ways l a with ⟨_, e⟩ | ⟨j, hj, e1, e2, e3⟩
  · rw [e, List.drop_zero]
  · have hb : lessB b l[j].at_ = false := less_le hab e2
    cases hd : l[j].drop
    · rw [hd] at e3
      rw [e3, if_neg (by simp)]
      conv => rhs; rw [← List.take_append_drop j l, foldT_append]
      rw [List.drop_eq_getElem_cons hj, foldT_cons, foldT_cons, hb]
      rfl
    · rw [hd] at e3
      rw [e3, if_pos rfl]
      conv => rhs; rw [← List.take_append_drop (j + 1) l, foldT_append, List.take_succ_eq_append_getElem hj, foldT_append]
      have e : foldT b (foldT b ([], false) (l.take j)) [l[j]] = (l[j].data, false) := by simp [foldT, hb, hd]
      rw [e]
      exact (norm_drop _ _ _).symm
end Go.Proofs.Ytoldelocfmpccaa
namespace Go.Proofs.Ytoldelocfmpccaa
theorem pairs_trim {a b : St} (hab : lessB b a = false) (lo hi : List UInt8) (cs : List Cel) : pairsF b (withinF (trimF cs a) lo hi) = pairsF b (withinF cs lo hi) := by
  unfold pairsF withinF trimF
  induction cs with
  | nil => rfl
  | cons c cs ih =>
    rw [List.flatMap_cons, List.filter_append, List.flatMap_append, ih]
    have key : ((trimC a c).filter fun c => inB lo hi c.key).flatMap (pairF b) = if inB lo hi c.key = true then pairF b c else [] := by
      have e : pairF b { c with vers := trimV c.vers a } = pairF b c := by
        unfold pairF
        simp only [tells_trim hab]
      unfold trimC
      cases hk : keptB { c with vers := trimV c.vers a }
      · have hv : trimV c.vers a = [] := by
          simp [keptB] at hk
          exact hk.2
        have : pairF b c = [] := by
          rw [← e, hv]
          rfl
        simp [this]
      · simp only [if_true, List.filter_cons, List.filter_nil]
        split <;> simp [e]
    rw [key, List.filter_cons]
    split <;> simp
end Go.Proofs.Ytoldelocfmpccaa
namespace Go.Proofs.Ytoldelocfmpccaa
open Go.RowKit
def Quiet (a : St) (lo hi : List UInt8) (cs : List Cel) : Prop := ∀ c ∈ cs, inB lo hi c.key = true → c.locked = true → lessB a c.lock.at_ = true
theorem blockGo_quiet (a : St) : ∀ l : List Cel, (blockGo a l).2 = false ↔ ∀ c ∈ l, c.locked = true → lessB a c.lock.at_ = true
  | [] => by simp [blockGo]
  | c :: l => by
    have ih := blockGo_quiet a l
    unfold blockGo
    cases h1 : c.locked <;> cases h2 : lessB a c.lock.at_ <;> simp [h1, h2, ih]
theorem quiet_iff (a : St) (lo hi : List UInt8) (cs : List Cel) : (blocksF cs lo hi a).2 = false ↔ Quiet a lo hi cs := by
  unfold blocksF Quiet
  rw [blockGo_quiet]
  unfold withinF
  constructor
  · intro h c hc hi hl
    exact h c (List.mem_filter.2 ⟨hc, hi⟩) hl
  · intro h c hc hl
    obtain ⟨h1, h2⟩ := List.mem_filter.1 hc
    exact h c h1 h2 hl
def pw (a : St) (lo hi : List UInt8) (c : Cel) : List (List UInt8 × List UInt8) := if inB lo hi c.key then pairF a c else []
theorem pairs_flat (a : St) (lo hi : List UInt8) : ∀ cs : List Cel, pairsF a (withinF cs lo hi) = cs.flatMap (pw a lo hi)
  | [] => rfl
  | c :: cs => by
    have ih := pairs_flat a lo hi cs
    unfold pairsF withinF at ih ⊢
    rw [List.filter_cons, List.flatMap_cons, ← ih]
    unfold pw
    split <;> simp
theorem pairF_nil (a : St) {c : Cel} (h : c.vers = []) : pairF a c = [] := by
  unfold pairF
  rw [h]
  rfl
theorem quiet_lock {a : St} {lo hi : List UInt8} {cs : List Cel} (h : Good cs) (w : Wr) (l : Lck) (ha : lessB a l.at_ = true) (hq : Quiet a lo hi cs) :
    Quiet a lo hi (lockF cs w.key (lockW w l)) ∧ pairsF a (withinF (lockF cs w.key (lockW w l)) lo hi) = pairsF a (withinF cs lo hi) := by
  obtain ⟨A, o, Z, e1, e2, e3, e4, e5, e6, e7⟩ := split_at (k := w.key) h.sort
  rw [e5]
  refine ⟨?_, ?_⟩
  · intro c hc hi hl
    rcases List.mem_append.1 hc with hc | hc
    · exact hq c (by rw [e1]; exact List.mem_append_left _ hc) hi hl
    · rcases List.mem_cons.1 hc with rfl | hc
      · exact ha
      · exact hq c (by rw [e1]; exact List.mem_append_right _ (List.mem_append_right _ hc)) hi hl
  · rw [pairs_flat, pairs_flat]
    conv => rhs; rw [e1]
    simp only [List.flatMap_append, List.flatMap_cons]
    congr 2
    cases o with
    | none =>
      unfold pw
      rw [pairF_nil a (show (updC (Option.getD none (freshC w.key)) (lockW w l)).vers = [] from rfl)]
      simp
    | some c =>
      simp only [Option.getD_some, Option.toList_some, List.flatMap_cons, List.flatMap_nil, List.append_nil]
      rfl
theorem pairF_free {a : St} {c : Cel} (yes : Bool) (h : lessB a c.lock.at_ = true) : pairF a (freeC yes c) = pairF a c := by
  unfold pairF
  have : tellsF (freeC yes c).vers a = tellsF c.vers a := by
    cases yes
    · rfl
    · exact tells_put_low (v := lockV c) h _
  rw [this]
  rfl
theorem quiet_setl {a : St} {lo hi : List UInt8} {cs : List Cel} (h : Good cs) (b : TryT) (yes : Bool) (hq : Quiet a lo hi cs) :
    Quiet a lo hi (setlF cs b yes) ∧ pairsF a (withinF (setlF cs b yes) lo hi) = pairsF a (withinF cs lo hi) := by
  refine ⟨?_, ?_⟩
  · intro x hx hi hl
    unfold setlF at hx
    obtain ⟨c, hc, hx⟩ := List.mem_flatMap.1 hx
    obtain ⟨h1, h2⟩ := setlC_mem hx
    cases hm : mineB c b
    · rw [hm] at h2
      simp at h2
      subst h2
      exact hq _ hc hi hl
    · rw [hm] at h2
      simp at h2
      subst h2
      cases hl
  · rw [pairs_flat, pairs_flat]
    unfold setlF
    have key : ∀ c ∈ cs, (setlC b yes c).flatMap (pw a lo hi) = pw a lo hi c := by
      intro c hc
      cases hm : mineB c b
      · rw [setlC_id (h.each c hc) hm]
        simp
      · have hlk : c.locked = true := by
          unfold mineB at hm
          simp at hm
          exact hm.1
        have hkey : (freeC yes c).key = c.key := rfl
        unfold setlC
        rw [hm]
        simp only [if_true]
        cases hin : inB lo hi c.key
        · have e1 : pw a lo hi c = [] := by unfold pw; rw [hin]; rfl
          have e2 : pw a lo hi (freeC yes c) = [] := by unfold pw; rw [hkey, hin]; rfl
          cases keptB (freeC yes c) <;> simp [e1, e2]
        · have hp := pairF_free yes (hq c hc hin hlk)
          have e1 : pw a lo hi c = pairF a c := by unfold pw; rw [hin]; rfl
          have e2 : pw a lo hi (freeC yes c) = pairF a c := by unfold pw; rw [hkey, hin]; exact hp
          cases hk : keptB (freeC yes c)
          · have : pairF a c = [] := by
              rw [← hp]
              refine pairF_nil a ?_
              simpa [keptB, freeC] using hk
            simp [e1, this]
          · simp [e1, e2]
    clear hq
    induction cs with
    | nil => rfl
    | cons c cs ih =>
      rw [List.flatMap_cons, List.flatMap_append, List.flatMap_cons, key c (List.mem_cons_self ..), ih ⟨(List.pairwise_cons.1 h.sort).2, fun x hx => h.each x (List.mem_cons_of_mem _ hx)⟩ fun x hx => key x (List.mem_cons_of_mem _ hx)]
theorem quiet_trim {a b : St} {lo hi : List UInt8} {cs : List Cel} (hab : lessB a b = false) (hq : Quiet a lo hi cs) :
    Quiet a lo hi (trimF cs b) ∧ pairsF a (withinF (trimF cs b) lo hi) = pairsF a (withinF cs lo hi) := by
  refine ⟨?_, pairs_trim hab lo hi cs⟩
  intro x hx hi hl
  unfold trimF at hx
  obtain ⟨c, hc, hx⟩ := List.mem_flatMap.1 hx
  obtain ⟨h1, rfl⟩ := trimC_mem hx
  exact hq c hc hi hl
theorem quiet_all {a : St} {lo hi : List UInt8} {c : CmdM} (ha : lessB a c.at_ = true) : ∀ (l : List Wr) {cs : List Cel}, Good cs → Quiet a lo hi cs →
    Quiet a lo hi (lockAll c cs l) ∧ pairsF a (withinF (lockAll c cs l) lo hi) = pairsF a (withinF cs lo hi)
  | [], _, _, hq => ⟨hq, rfl⟩
  | x :: l, cs, h, hq => by
    obtain ⟨h1, h2⟩ := quiet_lock h x ⟨c.by_, c.home, c.at_, false, []⟩ ha hq
    obtain ⟨h3, h4⟩ := quiet_all ha l (lock_good h x _) h1
    exact ⟨h3, h4.trans h2⟩
/-- What is quiet at a stamp stays as it is there. -/
theorem quiet_step {a : St} {lo hi : List UInt8} {p p' : PartM} {c : CmdM} (hg : Good p.cells) (hs : StepP p c p') (hq : Quiet a lo hi p.cells)
    (h3 : c.kind = 3 → lessB c.at_ p.floor = false → ¬ c.at_.wall ≤ p.closed → lessB a c.at_ = true) (ht : p'.low ≤ a.wall) (h0 : 0 ≤ a.tie) :
    Quiet a lo hi p'.cells ∧ pairsF a (withinF p'.cells lo hi) = pairsF a (withinF p.cells lo hi) := by
  cases hs with
  | same => exact ⟨hq, rfl⟩
  | lease => exact ⟨hq, rfl⟩
  | read => exact ⟨hq, rfl⟩
  | prep h1 h2 h3' h4 h5 h6 => exact quiet_all (h3 h1 h5 h4) _ hg hq
  | dec => exact ⟨hq, rfl⟩
  | setl => exact quiet_setl hg _ _ hq
  | close => exact ⟨hq, rfl⟩
  | trim =>
    refine quiet_trim ?_ hq
    rw [less_no]
    have : lowF p c ≤ a.wall := ht
    dsimp only
    omega
end Go.Proofs.Ytoldelocfmpccaa
namespace Go.Proofs.Ytoldelocfmpccaa
open Go.RowKit
/-- What all spans tell, however much it is. -/
def toldAll (cs : List Cel) (a : St) (l : List (List UInt8 × List UInt8)) : List (List UInt8 × List UInt8) := l.flatMap fun s => pairsF a (withinF cs s.1 s.2)
theorem blocked_quiet {cs : List Cel} {a : St} : ∀ {l : List (List UInt8 × List UInt8)}, blockedF cs a l = none → ∀ s ∈ l, Quiet a s.1 s.2 cs
  | [], _, s, hs => by cases hs
  | t :: l, h, s, hs => by
    unfold blockedF at h
    split at h
    · cases h
    · rename_i h1
      rcases List.mem_cons.1 hs with rfl | hs
      · exact (quiet_iff _ _ _ _).1 (by simpa using h1)
      · exact blocked_quiet h s hs
theorem scan_zero {cs : List Cel} {lo hi : List UInt8} {a : St} {m : Int} (h : (scanF cs lo hi a m).2 = 0) : (scanF cs lo hi a m).1 = pairsF a (withinF cs lo hi) := by
  unfold scanF at h ⊢
  split at h
  · cases h
  · rename_i h1
    rw [if_neg h1]
theorem scanAll_told {cs : List Cel} {a : St} : ∀ {l acc : List (List UInt8 × List UInt8)}, (scanAll cs a l acc).2 = 0 → (scanAll cs a l acc).1 = acc ++ toldAll cs a l
  | [], acc, _ => by simp [scanAll, toldAll]
  | s :: l, acc, h => by
    unfold scanAll at h ⊢
    split at h
    · rename_i h1
      rw [if_pos h1, scanAll_told h, scan_zero h1]
      simp [toldAll]
    · rename_i h1
      exact absurd h h1
theorem within_len (cs : List Cel) (lo hi : List UInt8) : (withinF cs lo hi).length ≤ cs.length := by
  unfold withinF
  exact List.length_filter_le ..
/-- A scan of few cells tells all. -/
theorem scan_all {cs : List Cel} {lo hi : List UInt8} {a : St} (h : cs.length ≤ 10000) : scanF cs lo hi a 10000 = (pairsF a (withinF cs lo hi), 0) := by
  unfold scanF
  rw [if_neg]
  have h1 := pairs_len a (withinF cs lo hi)
  have h2 := within_len cs lo hi
  omega
/-- What a Read told holds at a part. -/
structure Holds (a : St) (spans : List (List UInt8 × List UInt8)) (pairs : List (List UInt8 × List UInt8)) (p : PartM) : Prop where
  quiet : ∀ s ∈ spans, Quiet a s.1 s.2 p.cells
  told : toldAll p.cells a spans = pairs
  floor : lessB p.floor a = false
theorem holds_read {p : PartM} {c : CmdM} (hk : c.kind = 2) (h : (applyF p c).2.err = 0) : Holds c.at_ c.spans (applyF p c).2.pairs (applyF p c).1 := by
  by_cases hp : p.epoch = 0 ∨ c.epoch ≠ p.epoch
  · rw [apply_elder (by omega) hp] at h
    cases h
  · have e := apply_does (p := p) (c := c) (by omega) (fun e => hp (.inl e)) (by by_cases h1 : c.epoch = p.epoch; exact h1; exact absurd (.inr h1) hp)
    rw [does2 hk] at e
    have h2 : (readF p c).2.err = 0 := by
      rw [e] at h
      split at h
      · exact h
      · rename_i h1; exact absurd h h1
    rw [if_pos h2] at e
    obtain ⟨r1, r2, r3⟩ := read_ok h2
    rw [e, readF_of r1 r2 r3]
    refine ⟨fun s hs => blocked_quiet r2 s hs, ?_, ?_⟩
    · show toldAll p.cells c.at_ c.spans = (scanAll p.cells c.at_ c.spans []).1
      rw [scanAll_told r3]
      rfl
    · show lessB (maxS p.floor c.at_) c.at_ = false
      unfold maxS
      split
      · exact less_irrefl _
      · rename_i h3; simpa using h3
theorem told_eq {a : St} {cs cs' : List Cel} : ∀ {l : List (List UInt8 × List UInt8)}, (∀ s ∈ l, pairsF a (withinF cs' s.1 s.2) = pairsF a (withinF cs s.1 s.2)) → toldAll cs' a l = toldAll cs a l
  | [], _ => rfl
  | s :: l, h => by
    have ih := told_eq (l := l) fun t ht => h t (List.mem_cons_of_mem _ ht)
    unfold toldAll at ih ⊢
    rw [List.flatMap_cons, List.flatMap_cons, ih, h s (List.mem_cons_self ..)]
theorem holds_step {a : St} {spans pairs : List (List UInt8 × List UInt8)} {p p' : PartM} {c : CmdM} (hh : Holds a spans pairs p) (hg : Good p.cells) (hs : StepP p c p') (h0 : 0 ≤ a.tie) (hne : ¬ (c.kind = 3 ∧ c.at_ = a)) (hlow : ¬ a.wall < p'.low) : Holds a spans pairs p' := by
  have key : ∀ s ∈ spans, Quiet a s.1 s.2 p'.cells ∧ pairsF a (withinF p'.cells s.1 s.2) = pairsF a (withinF p.cells s.1 s.2) := fun s hs' => by
    refine quiet_step hg hs (hh.quiet s hs') (fun hk hf _ => ?_) (by omega) h0
    have h1 : lessB c.at_ a = false := less_le hf hh.floor
    rcases less_or h1 with h2 | h2
    · exact absurd ⟨hk, h2⟩ hne
    · exact h2
  refine ⟨fun s hs' => (key s hs').1, ?_, less_le (step_floor hs) hh.floor⟩
  rw [told_eq fun s hs' => (key s hs').2]
  exact hh.told
/-- What is closed and quiet at a part. -/
structure Shut (a : St) (lo hi : List UInt8) (pairs : List (List UInt8 × List UInt8)) (p : PartM) : Prop where
  quiet : Quiet a lo hi p.cells
  told : pairsF a (withinF p.cells lo hi) = pairs
  closed : a.wall ≤ p.closed
end Go.Proofs.Ytoldelocfmpccaa
namespace Go.Proofs.Ytoldelocfmpccaa
open Go.RowKit
/-- What negative tells. -/
def NegP (l : List CmdM) (w : World) (e : Ending) (w' : World) : Prop := ∃ b, e = .returned (.bool b) ∧ (b = false → ∀ c ∈ l, 0 ≤ c.at_.tie) ∧ Same (fun _ => True) w w'
theorem neg_yes {l : List CmdM} {w w' : World} (h : Same (fun _ => True) w w') : NegP l w (.returned (.bool true)) w' := ⟨true, rfl, (fun h => by cases h), h⟩
set_option maxRecDepth 100000 in
set_option maxHeartbeats 2000000 in
theorem negative_any (v : Value) (l : List CmdM) (S : Nat → Prop) (w : World) (hv : CmdR w S v l) :
    Calls Try.prog 52 #[v] w (NegP l w) := by
  obtain ⟨A, cl, rfl, hc, hm⟩ := hv.form
  have Hv := Lib.hid hv
  unfold maxLen at hm
  clear hv
  go_enter Try.func52, Try.ntmps52
  go_wp2
  go_loopw [3] (fun i wr => ∃ k : Nat, i = .int .i64 k ∧ k ≤ l.length ∧ (∀ c ∈ l.take k, 0 ≤ c.at_.tie) ∧ Same (fun _ => True) w wr) (fun i _ => l.length - (intOf i).toNat)
  case atStart => exact ⟨0, rfl, Nat.zero_le _, by simp, Same.refl _ _⟩
  case round =>
    obtain ⟨k, rfl, hk, hft, hS⟩ := hrel
    have HS := Lib.hid hS
    by_cases hlt : k < l.length
    · obtain ⟨ad, vs, vw, rfl, -, hsp, hwr, hcl, c0, hcs⟩ := CmdR.at_ (Hv.out.keepAll hS) hlt
      have hnx : 0 ≤ l[k].at_.tie → ∀ c ∈ l.take (k + 1), 0 ≤ c.at_.tie := fun h c hc => by
        rw [List.take_succ_eq_append_getElem hlt] at hc
        rcases List.mem_append.1 hc with hc | hc
        · exact hft c hc
        · obtain rfl := List.mem_singleton.1 hc
          exact h
      have Hnx := Lib.hid hnx
      have x1 : (0 : Int) ≤ (k : Int) := by omega
      have x2 : (k : Int) < (l.length : Int) := by omega
      generalize l[k] = c at *
      have c9 := hcs 9 (by omega) (by omega)
      simp only [cmdCs, List.getElem?_cons_zero, List.getElem?_cons_succ] at c9
      have c9' : wr.cell? ⟨(ad.add (k * 14)).block, (ad.add (k * 14)).off + 8 + 1, none⟩ = some (.int .i64 c.at_.tie) := c9
      clear hnx hft hS hcs hsp hwr hcl c0
      by_cases hneg : c.at_.tie < 0
      · go_wp2
        first
          | (go_ret; exact neg_yes HS.out)
          | (go_quiet (fail); go_wp2; go_ret; exact neg_yes (HS.out.trans ((Same.refl _ _).drewN _)))
      · have HN := Lib.hid (Hnx.out (by omega))
        clear Hnx
        go_wp2
        go_roundw
        case rel => exact ⟨k + 1, by go_num, by omega, HN.out, HS.out⟩
        case measure => simp [intOf]; omega
    · obtain rfl : k = l.length := by omega
      rw [List.take_length] at hft
      have Hf := Lib.hid hft
      clear hft hS
      go_wp2
      go_ret
      exact ⟨false, rfl, fun _ => Hf.out, HS.out⟩
end Go.Proofs.Ytoldelocfmpccaa
