/-
  One of the longer walks of mvcc (written by bundle.py out of: MvS6). No condition.
-/
import Derived.Test.YtoldelocfmpccaaQ9
set_option linter.unusedSimpArgs false
set_option linter.unusedVariables false
namespace Go.Proofs.Ytoldelocfmpccaa
open Go.RowKit

/-- What the inner loop holds. -/
structure TrimIn (a : St) (l : List Ver) (j : Nat) (W wi : World) : Prop where
  le : j ≤ l.length
  low : ∀ q (h : q < l.length), q < j → lessB a l[q].at_ = false
  same : Same (fun _ => True) W wi
theorem trimIn_last {a : St} {l : List Ver} {j : Nat} (hs : SortV l) (hj : j ≤ l.length) (low : ∀ q (h : q < l.length), q < j → lessB a l[q].at_ = false) (hx : ∀ h : j < l.length, lessB a l[j].at_ = true) : lastF l a = (j : Int) - 1 := by
  refine last_is (by omega) (by omega) (fun h h0 => low _ _ (by omega)) fun k h hk => ?_
  rcases Nat.lt_or_ge j k with h1 | h1
  · exact less_trans (hx (by omega)) (List.pairwise_iff_getElem.1 hs j k (by omega) h h1)
  · obtain rfl : j = k := by omega
    exact hx h
theorem trimIn_zero {a : St} {l : List Ver} (h : lastF l a = ((0 : Nat) : Int) - 1) : trimI l a = 0 := by
  unfold trimI
  rw [if_pos (by omega)]
theorem trimIn_succ {a : St} {l : List Ver} {i : Nat} (hi : i < l.length) (h : lastF l a = ((i + 1 : Nat) : Int) - 1) : trimI l a = if l[i].drop then i + 1 else i := by
  unfold trimI
  have e : (lastF l a).toNat = i := by omega
  rw [if_neg (by omega), e, List.getElem?_eq_getElem hi]
  simp
set_option maxRecDepth 100000 in
set_option maxHeartbeats 4000000 in
theorem reftrim_any (v : Value) (cs : List Cel) (a : St) (S : Nat → Prop) (w : World) (hv : CelR w S v cs) (hn : cs.length ≤ 100000) (hn2 : ∀ c ∈ cs, c.vers.length ≤ 1000000) (hso : ∀ c ∈ cs, SortV c.vers) :
    Calls Try.prog 62 #[v, stV a] w (AllP (trimF cs a) w) := by
  obtain ⟨A, cp, rfl, hc, hm⟩ := hv.form
  have Hso := Lib.hid hso
  have gc := refcopy_any (.slice A cs.length cp) cs S (w.alloc (.cells (stCs a).toArray 28)) (hv.keepAll ((Same.refl _ _).alloc _)) hn hn2
  have hrow0 := Row.new w 28 (stCs a)
  have Hrow0 := Lib.hid hrow0
  unfold maxLen at hm
  have Hn2 := Lib.hid hn2
  clear hv hrow0 hso hn2
  go_enter Try.func62, Try.ntmps62
  go_wp2_with (go_at_call 34; refine stopAt ?_)
  unfold Hid
  refine gc.mono ?_
  rintro e w2 ⟨v2, rfl, hown2, hS2⟩
  obtain ⟨A2, cp2, rfl, hc2, hm2⟩ := hown2.form
  unfold maxLen at hm2
  have hz2 : w.heap.size + 1 ≤ w2.heap.size := by have := hS2.size; rw [World.size_alloc] at this; exact this
  rw [World.size_alloc] at hown2
  have hrel0 : FlatD (trimC a) cs w2.heap.size (w.heap.size + 1) w.heap.size 28 (stCs a) 0 (.slice none 0 0) w2 w2 :=
    ⟨Nat.zero_le _, OwnD.nil _ _ _, Hrow0.out.keep hS2 trivial, by omega, Nat.le_refl _, Same.refl _ _⟩
  have Hrel0 := Lib.hid hrel0
  have hS02 : Same (fun _ => True) w w2 := ((Same.refl _ _).alloc _).trans hS2
  have HS02 := Lib.hid hS02
  have Hown2 := Lib.hid hown2
  clear hrel0 hown2 hS2 gc hS02
  go_wp2
  go_loopw [5, 7, 8, 9] (fun l i _ _ wr => ∃ k : Nat, i = .int .i64 k ∧ FlatD (trimC a) cs w2.heap.size (w.heap.size + 1) w.heap.size 28 (stCs a) k l w2 wr) (fun _ i _ _ _ => cs.length - (intOf i).toNat)
  case atStart => exact ⟨0, rfl, Hrel0.out⟩
  case round =>
    obtain ⟨k, rfl, hrel⟩ := hrel
    obtain ⟨wo, rfl⟩ : ∃ wo : World, wo = wr := ⟨_, rfl⟩
    have hk := hrel.le
    have hS := hrel.same
    have HS := Lib.hid hS
    have hsz := hrel.row.lt
    have hsz2 := hrel.size
    obtain ⟨Al, nl, cl, rfl, hl1, hl2⟩ := hrel.own.form3
    have Hrel := Lib.hid hrel
    unfold maxLen at hl2
    by_cases hlt : k < cs.length
    · obtain ⟨ad, u, rfl, -, hvr, c0, c1, c2, c3, c4, c5, c6, c7, c8, c9, c10, c11⟩ := OwnC.cells12 (Hown2.out.keepAll hS) hlt
      obtain ⟨Au, cu, rfl, hq1, hq2⟩ : ∃ Aq cq, u = .slice Aq cs[k].vers.length cq ∧ cs[k].vers.length ≤ cq ∧ cq ≤ maxLen := by
        obtain ⟨Aq, cq, h1, h2, h3, _⟩ := hvr
        exact ⟨Aq, cq, h1, h2, h3⟩
      unfold maxLen at hq2
      have x1 : (0 : Int) ≤ (k : Int) := by omega
      have x2 : (k : Int) < (cs.length : Int) := by omega
      have hab := World.block_lt_of_cell? wo _ c0
      have hcl := Hn2.out cs[k] (List.getElem_mem hlt)
      have hcs := Hso.out cs[k] (List.getElem_mem hlt)
      obtain ⟨c, hck⟩ : ∃ c, c = cs[k] := ⟨_, rfl⟩
      rw [← hck] at c0 c1 c2 c3 c4 c5 c6 c7 c8 c9 c10 c11 hvr hcl hcs hq1
      have Hck := Lib.hid hck
      have Hcs := Lib.hid hcs
      have Hvr := Lib.hid hvr
      clear hvr hS hrel hcs hck
      go_wp2
      have r1 := Row.new wo 64 (celCs (.slice Au c.vers.length cu, c))
      have hS7 := (Same.refl (fun _ => True) wo).alloc (.cells (celCs (.slice Au c.vers.length cu, c)).toArray 64)
      have hvv := (Hvr.out.mono (S' := fun q => w.heap.size + 1 ≤ q ∧ q ≠ wo.heap.size) fun q hq h => ⟨h, by omega⟩).keepAll hS7
      simp only [celCs, lckCs, List.cons_append, List.nil_append] at r1 hS7 hvv
      clear c0 c1 c2 c3 c4 c5 c6 c7 c8 c9 c10 c11
      revert r1 hS7 hvv
      generalize wo.alloc (.cells _ 64) = W7
      intro r1 hS7 hvv
      have HS7 := Lib.hid hS7
      have Hv7 := Lib.hid hvv
      have Hbox7 := Lib.hid r1
      have hin0 : TrimIn a c.vers 0 W7 W7 := ⟨Nat.zero_le _, fun q _ h => absurd h (Nat.not_lt_zero _), Same.refl _ _⟩
      have Hin0 := Lib.hid hin0
      clear r1 hvv hS7 hin0
      go_loopw [9] (fun kk wi => ∃ j : Nat, kk = .int .i64 j ∧ TrimIn a c.vers j W7 wi) (fun kk _ => c.vers.length - (intOf kk).toNat)
      case atStart => exact ⟨0, rfl, Hin0.out⟩
      case round =>
        obtain ⟨j, rfl, hj, hlow, hSi⟩ := hrel
        have HSi := Lib.hid hSi
        have Hlow := Lib.hid hlow
        have hbox := Hbox7.out.keep hSi trivial
        have hrowb := Hrel.out.row.keep (HS7.out.trans hSi) trivial
        have a0 : wr.cell? ⟨wo.heap.size, 0, none⟩ = some (.string (str c.key)) := hbox.cell 0
        have a1 : wr.cell? ⟨wo.heap.size, 1, none⟩ = some (.slice Au c.vers.length cu) := hbox.cell 1
        have f1 := hbox.frozen 1
        have zb := hbox.lt
        have t0 : wr.cell? ⟨w.heap.size, 0, none⟩ = some (.int .i64 a.wall) := hrowb.cell 0
        have t1 : wr.cell? ⟨w.heap.size, 1, none⟩ = some (.int .i64 a.tie) := hrowb.cell 1
        clear hbox hrowb
        by_cases hjl : j < c.vers.length
        · obtain ⟨ad2, rfl, -, d0, d1, d2, d3⟩ := VerR.cells ((Hv7.out.keepAll hSi).row verCs_len) hjl
          have x3 : (0 : Int) ≤ (j : Int) := by omega
          have x4 : (j : Int) < (c.vers.length : Int) := by omega
          obtain ⟨b, hb⟩ : ∃ b, b = c.vers[j].at_ := ⟨_, rfl⟩
          rw [← hb] at d0 d1
          have gl := fun W => refless_any a b W
          cases hlb : lessB a b
          · rw [hlb] at gl
            have hlow' : ∀ q (h : q < c.vers.length), q < j + 1 → lessB a c.vers[q].at_ = false := by
              intro q h hq
              rcases Nat.lt_or_ge q j with h1 | h1
              · exact hlow q h h1
              · obtain rfl : q = j := by omega
                rw [← hb]; exact hlb
            have Hlow' := Lib.hid hlow'
            clear hlow hlow' hlb hb hSi
            go_wp2
            refine wp_region_eq_lit (vs := [(.int .i64 j), (.pointer (some ⟨wo.heap.size, 1, none⟩)), (.slice (some ad2) c.vers.length cu), (.int .i64 c.vers.length), (.bool true), (.bool true), (stV a), (.pointer (some ⟨wo.heap.size, 1, none⟩)), (.slice (some ad2) c.vers.length cu), (.int .i64 j), (.pointer (some (ad2.add (j * 4)))), (.pointer (some (ad2.add (j * 4)))), (stV b), (.bool false), (.bool true), (.bool true)]) (by kernel_rfl) (by kernel_rfl) rfl rfl ?_ ?_
            · refine ⟨?_, ?_, ?_, ?_, ?_, ?_, ?_, ?_, ?_, ?_, ?_, ?_, ?_, ?_, ?_, ?_, trivial⟩
              · intro ac wc hs hd hz hf hw K hK
                have e0 : ac.eval (.tmp 9) = (.int .i64 j) := hf 9 rfl
                clear hd hz hf hw
                simp only [Region.wanted, if_true, Oper.wp, execOp, resolve, List.map_toArray, List.map_cons, List.map_nil, Option.map_some, Option.map_none, e0]
                go_simp
                exact hK _ _ rfl (Same.refl _ _)
              · intro ac wc hs hd hz hf hw K hK
                have e0 : ac.eval (.tmp 8) = (.pointer (some ⟨wo.heap.size, 0, none⟩)) := hf 8 rfl
                clear hd hz hf hw
                simp only [Region.wanted, if_true, Oper.wp, execOp, resolve, List.map_toArray, List.map_cons, List.map_nil, Option.map_some, Option.map_none, e0]
                go_simp
                exact hK _ _ rfl (Same.refl _ _)
              · intro ac wc hs hd hz hf hw K hK
                have e0 : ac.eval (.tmp 23) = (.pointer (some ⟨wo.heap.size, 1, none⟩)) := hw 1 rfl
                have m0 : wc.cell? ⟨wo.heap.size, 1, none⟩ = some (.slice (some ad2) c.vers.length cu) := hs.cell (p := ⟨wo.heap.size, 1, none⟩) trivial a1
                clear hd hz hf hw
                simp only [Region.wanted, if_true, Oper.wp, execOp, resolve, List.map_toArray, List.map_cons, List.map_nil, Option.map_some, Option.map_none, e0]
                go_simp
                exact hK _ _ rfl (Same.refl _ _)
              · intro ac wc hs hd hz hf hw K hK
                have e0 : ac.eval (.tmp 24) = (.slice (some ad2) c.vers.length cu) := hw 2 rfl
                clear hd hz hf hw
                simp only [Region.wanted, if_true, Oper.wp, execOp, resolve, List.map_toArray, List.map_cons, List.map_nil, Option.map_some, Option.map_none, e0]
                go_simp
                exact hK _ _ rfl (Same.refl _ _)
              · intro ac wc hs hd hz hf hw K hK
                have e0 : ac.eval (.tmp 22) = (.int .i64 j) := hw 0 rfl
                have e1 : ac.eval (.tmp 25) = (.int .i64 c.vers.length) := hw 3 rfl
                clear hd hz hf hw
                simp only [Region.wanted, if_true, Oper.wp, execOp, resolve, List.map_toArray, List.map_cons, List.map_nil, Option.map_some, Option.map_none, e0, e1]
                go_simp
                exact hK _ _ rfl (Same.refl _ _)
              · intro ac wc hs hd hz hf hw K hK
                have e0 : ac.eval (.tmp 26) = (.bool true) := hw 4 rfl
                clear hd hz hf hw
                simp only [Region.wanted, if_true, Oper.wp, execOp, resolve, List.map_toArray, List.map_cons, List.map_nil, Option.map_some, Option.map_none, e0]
                go_simp
                exact hK _ _ rfl (Same.refl _ _)
              · intro ac wc hs hd hz hf hw K hK
                have eg : ac.eval (.tmp 27) = .bool true := hw 5 rfl
                refine run_wanted (j := 5) (d := 27) (b := true) rfl rfl hz (of_decide_eq_true rfl) eg ?_
                clear eg
                have e0 : ac.eval (.tmp 3) = (.pointer (some ⟨w.heap.size, 0, none⟩)) := hf 3 rfl
                have m0 : wc.cell? ⟨w.heap.size, 0, none⟩ = some (.int .i64 a.wall) := hs.cell (p := ⟨w.heap.size, 0, none⟩) trivial t0
                have m1 : wc.cell? ⟨w.heap.size, 1, none⟩ = some (.int .i64 a.tie) := hs.cell (p := ⟨w.heap.size, 1, none⟩) trivial t1
                clear hd hz hf hw
                simp only [Oper.wp, execOp, resolve, List.map_toArray, List.map_cons, List.map_nil, Option.map_some, Option.map_none, e0]
                go_simp
                exact hK _ _ rfl (Same.refl _ _)
              · intro ac wc hs hd hz hf hw K hK
                have eg : ac.eval (.tmp 27) = .bool true := hw 5 rfl
                refine run_wanted (j := 5) (d := 27) (b := true) rfl rfl hz (of_decide_eq_true rfl) eg ?_
                clear eg
                have e0 : ac.eval (.tmp 8) = (.pointer (some ⟨wo.heap.size, 0, none⟩)) := hf 8 rfl
                clear hd hz hf hw
                simp only [Oper.wp, execOp, resolve, List.map_toArray, List.map_cons, List.map_nil, Option.map_some, Option.map_none, e0]
                go_simp
                exact hK _ _ rfl (Same.refl _ _)
              · intro ac wc hs hd hz hf hw K hK
                have eg : ac.eval (.tmp 27) = .bool true := hw 5 rfl
                refine run_wanted (j := 5) (d := 27) (b := true) rfl rfl hz (of_decide_eq_true rfl) eg ?_
                clear eg
                have e0 : ac.eval (.tmp 29) = (.pointer (some ⟨wo.heap.size, 1, none⟩)) := hw 7 rfl
                have m0 : wc.cell? ⟨wo.heap.size, 1, none⟩ = some (.slice (some ad2) c.vers.length cu) := hs.cell (p := ⟨wo.heap.size, 1, none⟩) trivial a1
                clear hd hz hf hw
                simp only [Oper.wp, execOp, resolve, List.map_toArray, List.map_cons, List.map_nil, Option.map_some, Option.map_none, e0]
                go_simp
                exact hK _ _ rfl (Same.refl _ _)
              · intro ac wc hs hd hz hf hw K hK
                have eg : ac.eval (.tmp 27) = .bool true := hw 5 rfl
                refine run_wanted (j := 5) (d := 27) (b := true) rfl rfl hz (of_decide_eq_true rfl) eg ?_
                clear eg
                have e0 : ac.eval (.tmp 9) = (.int .i64 j) := hf 9 rfl
                clear hd hz hf hw
                simp only [Oper.wp, execOp, resolve, List.map_toArray, List.map_cons, List.map_nil, Option.map_some, Option.map_none, e0]
                go_simp
                exact hK _ _ rfl (Same.refl _ _)
              · intro ac wc hs hd hz hf hw K hK
                have eg : ac.eval (.tmp 27) = .bool true := hw 5 rfl
                refine run_wanted (j := 5) (d := 27) (b := true) rfl rfl hz (of_decide_eq_true rfl) eg ?_
                clear eg
                have e0 : ac.eval (.tmp 30) = (.slice (some ad2) c.vers.length cu) := hw 8 rfl
                have e1 : ac.eval (.tmp 31) = (.int .i64 j) := hw 9 rfl
                clear hd hz hf hw
                simp only [Oper.wp, execOp, resolve, List.map_toArray, List.map_cons, List.map_nil, Option.map_some, Option.map_none, e0, e1]
                go_simp
                exact hK _ _ rfl (Same.refl _ _)
              · intro ac wc hs hd hz hf hw K hK
                have eg : ac.eval (.tmp 27) = .bool true := hw 5 rfl
                refine run_wanted (j := 5) (d := 27) (b := true) rfl rfl hz (of_decide_eq_true rfl) eg ?_
                clear eg
                have e0 : ac.eval (.tmp 32) = (.pointer (some (ad2.add (j * 4)))) := hw 10 rfl
                clear hd hz hf hw
                simp only [Oper.wp, execOp, resolve, List.map_toArray, List.map_cons, List.map_nil, Option.map_some, Option.map_none, e0]
                go_simp
                exact hK _ _ rfl (Same.refl _ _)
              · intro ac wc hs hd hz hf hw K hK
                have eg : ac.eval (.tmp 27) = .bool true := hw 5 rfl
                refine run_wanted (j := 5) (d := 27) (b := true) rfl rfl hz (of_decide_eq_true rfl) eg ?_
                clear eg
                have e0 : ac.eval (.tmp 33) = (.pointer (some (ad2.add (j * 4)))) := hw 11 rfl
                have m0 : wc.cell? (ad2.add (j * 4)) = some (.int .i64 b.wall) := hs.cell (p := (ad2.add (j * 4))) trivial d0
                have m1 : wc.cell? ⟨(ad2.add (j * 4)).block, (ad2.add (j * 4)).off + 1, none⟩ = some (.int .i64 b.tie) := hs.cell (p := ⟨(ad2.add (j * 4)).block, (ad2.add (j * 4)).off + 1, none⟩) trivial d1
                clear hd hz hf hw
                simp only [Oper.wp, execOp, resolve, List.map_toArray, List.map_cons, List.map_nil, Option.map_some, Option.map_none, e0]
                go_simp
                exact hK _ _ rfl (Same.refl _ _)
              · intro ac wc hs hd hz hf hw K hK
                have eg : ac.eval (.tmp 27) = .bool true := hw 5 rfl
                refine run_wanted (j := 5) (d := 27) (b := true) rfl rfl hz (of_decide_eq_true rfl) eg ?_
                clear eg
                have e0 : ac.eval (.tmp 28) = (stV a) := hw 6 rfl
                have e1 : ac.eval (.tmp 34) = (stV b) := hw 12 rfl
                clear hd hz hf hw
                simp only [Oper.wp, execOp, resolve, List.map_toArray, List.map_cons, List.map_nil, Option.map_some, Option.map_none, e0, e1]
                go_simp
                refine (gl _).mono ?_
                rintro e wd ⟨rfl, hs2⟩
                exact hK _ _ rfl hs2
              · intro ac wc hs hd hz hf hw K hK
                have eg : ac.eval (.tmp 27) = .bool true := hw 5 rfl
                refine run_wanted (j := 5) (d := 27) (b := true) rfl rfl hz (of_decide_eq_true rfl) eg ?_
                clear eg
                have e0 : ac.eval (.tmp 35) = (.bool false) := hw 13 rfl
                clear hd hz hf hw
                simp only [Oper.wp, execOp, resolve, List.map_toArray, List.map_cons, List.map_nil, Option.map_some, Option.map_none, e0]
                go_simp
                exact hK _ _ rfl (Same.refl _ _)
              · intro ac wc hs hd hz hf hw K hK
                have e0 : ac.eval (.tmp 27) = (.bool true) := hw 5 rfl
                have e1 : ac.eval (.tmp 36) = (.bool true) := hw 14 rfl
                clear hd hz hf hw
                simp only [Region.wanted, if_true, Oper.wp, execOp, resolve, List.map_toArray, List.map_cons, List.map_nil, Option.map_some, Option.map_none, e0, e1]
                go_simp
                exact hK _ _ rfl (Same.refl _ _)
            · intro wR hsR
              simp only [putAll, Act.put, List.setIfInBounds_toArray, List.set_cons_succ, List.set_cons_zero]
              have hSR := HSi.out.trans hsR
              have HSR := Lib.hid hSR
              clear hSR hsR
              go_wp2
              go_roundw
              case rel => exact ⟨j + 1, by go_num, by omega, Hlow'.out, HSR.out⟩
              case measure => simp [intOf]; omega
          · rw [hlb] at gl
            have hlast := trimIn_last Hcs.out hj hlow fun _ => by rw [← hb]; exact hlb
            have Hlast := Lib.hid hlast
            clear hlow hlast hlb hb hSi
            go_wp2
            refine wp_region_eq_lit (vs := [(.int .i64 j), (.pointer (some ⟨wo.heap.size, 1, none⟩)), (.slice (some ad2) c.vers.length cu), (.int .i64 c.vers.length), (.bool true), (.bool true), (stV a), (.pointer (some ⟨wo.heap.size, 1, none⟩)), (.slice (some ad2) c.vers.length cu), (.int .i64 j), (.pointer (some (ad2.add (j * 4)))), (.pointer (some (ad2.add (j * 4)))), (stV b), (.bool true), (.bool false), (.bool false)]) (by kernel_rfl) (by kernel_rfl) rfl rfl ?_ ?_
            · refine ⟨?_, ?_, ?_, ?_, ?_, ?_, ?_, ?_, ?_, ?_, ?_, ?_, ?_, ?_, ?_, ?_, trivial⟩
              · intro ac wc hs hd hz hf hw K hK
                have e0 : ac.eval (.tmp 9) = (.int .i64 j) := hf 9 rfl
                clear hd hz hf hw
                simp only [Region.wanted, if_true, Oper.wp, execOp, resolve, List.map_toArray, List.map_cons, List.map_nil, Option.map_some, Option.map_none, e0]
                go_simp
                exact hK _ _ rfl (Same.refl _ _)
              · intro ac wc hs hd hz hf hw K hK
                have e0 : ac.eval (.tmp 8) = (.pointer (some ⟨wo.heap.size, 0, none⟩)) := hf 8 rfl
                clear hd hz hf hw
                simp only [Region.wanted, if_true, Oper.wp, execOp, resolve, List.map_toArray, List.map_cons, List.map_nil, Option.map_some, Option.map_none, e0]
                go_simp
                exact hK _ _ rfl (Same.refl _ _)
              · intro ac wc hs hd hz hf hw K hK
                have e0 : ac.eval (.tmp 23) = (.pointer (some ⟨wo.heap.size, 1, none⟩)) := hw 1 rfl
                have m0 : wc.cell? ⟨wo.heap.size, 1, none⟩ = some (.slice (some ad2) c.vers.length cu) := hs.cell (p := ⟨wo.heap.size, 1, none⟩) trivial a1
                clear hd hz hf hw
                simp only [Region.wanted, if_true, Oper.wp, execOp, resolve, List.map_toArray, List.map_cons, List.map_nil, Option.map_some, Option.map_none, e0]
                go_simp
                exact hK _ _ rfl (Same.refl _ _)
              · intro ac wc hs hd hz hf hw K hK
                have e0 : ac.eval (.tmp 24) = (.slice (some ad2) c.vers.length cu) := hw 2 rfl
                clear hd hz hf hw
                simp only [Region.wanted, if_true, Oper.wp, execOp, resolve, List.map_toArray, List.map_cons, List.map_nil, Option.map_some, Option.map_none, e0]
                go_simp
                exact hK _ _ rfl (Same.refl _ _)
              · intro ac wc hs hd hz hf hw K hK
                have e0 : ac.eval (.tmp 22) = (.int .i64 j) := hw 0 rfl
                have e1 : ac.eval (.tmp 25) = (.int .i64 c.vers.length) := hw 3 rfl
                clear hd hz hf hw
                simp only [Region.wanted, if_true, Oper.wp, execOp, resolve, List.map_toArray, List.map_cons, List.map_nil, Option.map_some, Option.map_none, e0, e1]
                go_simp
                exact hK _ _ rfl (Same.refl _ _)
              · intro ac wc hs hd hz hf hw K hK
                have e0 : ac.eval (.tmp 26) = (.bool true) := hw 4 rfl
                clear hd hz hf hw
                simp only [Region.wanted, if_true, Oper.wp, execOp, resolve, List.map_toArray, List.map_cons, List.map_nil, Option.map_some, Option.map_none, e0]
                go_simp
                exact hK _ _ rfl (Same.refl _ _)
              · intro ac wc hs hd hz hf hw K hK
                have eg : ac.eval (.tmp 27) = .bool true := hw 5 rfl
                refine run_wanted (j := 5) (d := 27) (b := true) rfl rfl hz (of_decide_eq_true rfl) eg ?_
                clear eg
                have e0 : ac.eval (.tmp 3) = (.pointer (some ⟨w.heap.size, 0, none⟩)) := hf 3 rfl
                have m0 : wc.cell? ⟨w.heap.size, 0, none⟩ = some (.int .i64 a.wall) := hs.cell (p := ⟨w.heap.size, 0, none⟩) trivial t0
                have m1 : wc.cell? ⟨w.heap.size, 1, none⟩ = some (.int .i64 a.tie) := hs.cell (p := ⟨w.heap.size, 1, none⟩) trivial t1
                clear hd hz hf hw
                simp only [Oper.wp, execOp, resolve, List.map_toArray, List.map_cons, List.map_nil, Option.map_some, Option.map_none, e0]
                go_simp
                exact hK _ _ rfl (Same.refl _ _)
              · intro ac wc hs hd hz hf hw K hK
                have eg : ac.eval (.tmp 27) = .bool true := hw 5 rfl
                refine run_wanted (j := 5) (d := 27) (b := true) rfl rfl hz (of_decide_eq_true rfl) eg ?_
                clear eg
                have e0 : ac.eval (.tmp 8) = (.pointer (some ⟨wo.heap.size, 0, none⟩)) := hf 8 rfl
                clear hd hz hf hw
                simp only [Oper.wp, execOp, resolve, List.map_toArray, List.map_cons, List.map_nil, Option.map_some, Option.map_none, e0]
                go_simp
                exact hK _ _ rfl (Same.refl _ _)
              · intro ac wc hs hd hz hf hw K hK
                have eg : ac.eval (.tmp 27) = .bool true := hw 5 rfl
                refine run_wanted (j := 5) (d := 27) (b := true) rfl rfl hz (of_decide_eq_true rfl) eg ?_
                clear eg
                have e0 : ac.eval (.tmp 29) = (.pointer (some ⟨wo.heap.size, 1, none⟩)) := hw 7 rfl
                have m0 : wc.cell? ⟨wo.heap.size, 1, none⟩ = some (.slice (some ad2) c.vers.length cu) := hs.cell (p := ⟨wo.heap.size, 1, none⟩) trivial a1
                clear hd hz hf hw
                simp only [Oper.wp, execOp, resolve, List.map_toArray, List.map_cons, List.map_nil, Option.map_some, Option.map_none, e0]
                go_simp
                exact hK _ _ rfl (Same.refl _ _)
              · intro ac wc hs hd hz hf hw K hK
                have eg : ac.eval (.tmp 27) = .bool true := hw 5 rfl
                refine run_wanted (j := 5) (d := 27) (b := true) rfl rfl hz (of_decide_eq_true rfl) eg ?_
                clear eg
                have e0 : ac.eval (.tmp 9) = (.int .i64 j) := hf 9 rfl
                clear hd hz hf hw
                simp only [Oper.wp, execOp, resolve, List.map_toArray, List.map_cons, List.map_nil, Option.map_some, Option.map_none, e0]
                go_simp
                exact hK _ _ rfl (Same.refl _ _)
              · intro ac wc hs hd hz hf hw K hK
                have eg : ac.eval (.tmp 27) = .bool true := hw 5 rfl
                refine run_wanted (j := 5) (d := 27) (b := true) rfl rfl hz (of_decide_eq_true rfl) eg ?_
                clear eg
                have e0 : ac.eval (.tmp 30) = (.slice (some ad2) c.vers.length cu) := hw 8 rfl
                have e1 : ac.eval (.tmp 31) = (.int .i64 j) := hw 9 rfl
                clear hd hz hf hw
                simp only [Oper.wp, execOp, resolve, List.map_toArray, List.map_cons, List.map_nil, Option.map_some, Option.map_none, e0, e1]
                go_simp
                exact hK _ _ rfl (Same.refl _ _)
              · intro ac wc hs hd hz hf hw K hK
                have eg : ac.eval (.tmp 27) = .bool true := hw 5 rfl
                refine run_wanted (j := 5) (d := 27) (b := true) rfl rfl hz (of_decide_eq_true rfl) eg ?_
                clear eg
                have e0 : ac.eval (.tmp 32) = (.pointer (some (ad2.add (j * 4)))) := hw 10 rfl
                clear hd hz hf hw
                simp only [Oper.wp, execOp, resolve, List.map_toArray, List.map_cons, List.map_nil, Option.map_some, Option.map_none, e0]
                go_simp
                exact hK _ _ rfl (Same.refl _ _)
              · intro ac wc hs hd hz hf hw K hK
                have eg : ac.eval (.tmp 27) = .bool true := hw 5 rfl
                refine run_wanted (j := 5) (d := 27) (b := true) rfl rfl hz (of_decide_eq_true rfl) eg ?_
                clear eg
                have e0 : ac.eval (.tmp 33) = (.pointer (some (ad2.add (j * 4)))) := hw 11 rfl
                have m0 : wc.cell? (ad2.add (j * 4)) = some (.int .i64 b.wall) := hs.cell (p := (ad2.add (j * 4))) trivial d0
                have m1 : wc.cell? ⟨(ad2.add (j * 4)).block, (ad2.add (j * 4)).off + 1, none⟩ = some (.int .i64 b.tie) := hs.cell (p := ⟨(ad2.add (j * 4)).block, (ad2.add (j * 4)).off + 1, none⟩) trivial d1
                clear hd hz hf hw
                simp only [Oper.wp, execOp, resolve, List.map_toArray, List.map_cons, List.map_nil, Option.map_some, Option.map_none, e0]
                go_simp
                exact hK _ _ rfl (Same.refl _ _)
              · intro ac wc hs hd hz hf hw K hK
                have eg : ac.eval (.tmp 27) = .bool true := hw 5 rfl
                refine run_wanted (j := 5) (d := 27) (b := true) rfl rfl hz (of_decide_eq_true rfl) eg ?_
                clear eg
                have e0 : ac.eval (.tmp 28) = (stV a) := hw 6 rfl
                have e1 : ac.eval (.tmp 34) = (stV b) := hw 12 rfl
                clear hd hz hf hw
                simp only [Oper.wp, execOp, resolve, List.map_toArray, List.map_cons, List.map_nil, Option.map_some, Option.map_none, e0, e1]
                go_simp
                refine (gl _).mono ?_
                rintro e wd ⟨rfl, hs2⟩
                exact hK _ _ rfl hs2
              · intro ac wc hs hd hz hf hw K hK
                have eg : ac.eval (.tmp 27) = .bool true := hw 5 rfl
                refine run_wanted (j := 5) (d := 27) (b := true) rfl rfl hz (of_decide_eq_true rfl) eg ?_
                clear eg
                have e0 : ac.eval (.tmp 35) = (.bool true) := hw 13 rfl
                clear hd hz hf hw
                simp only [Oper.wp, execOp, resolve, List.map_toArray, List.map_cons, List.map_nil, Option.map_some, Option.map_none, e0]
                go_simp
                exact hK _ _ rfl (Same.refl _ _)
              · intro ac wc hs hd hz hf hw K hK
                have e0 : ac.eval (.tmp 27) = (.bool true) := hw 5 rfl
                have e1 : ac.eval (.tmp 36) = (.bool false) := hw 14 rfl
                clear hd hz hf hw
                simp only [Region.wanted, if_true, Oper.wp, execOp, resolve, List.map_toArray, List.map_cons, List.map_nil, Option.map_some, Option.map_none, e0, e1]
                go_simp
                exact hK _ _ rfl (Same.refl _ _)
            · intro wR hsR
              simp only [putAll, Act.put, List.setIfInBounds_toArray, List.set_cons_succ, List.set_cons_zero]
              have hSR := HSi.out.trans hsR
              have hboxR := Hbox7.out.keep hSR trivial
              have hvR := Hv7.out.keepAll hSR
              have hSoR := HS7.out.trans hSR
              have hrowb := Hrel.out.row.keep hSoR trivial
              obtain ⟨-, a1, -, -, -, -, -, -, -, -, -, -, f0, f1, -⟩ := cel_cells hboxR
              have zb := hboxR.lt
              have t0 : wR.cell? ⟨w.heap.size, 0, none⟩ = some (.int .i64 a.wall) := hrowb.cell 0
              have t1 : wR.cell? ⟨w.heap.size, 1, none⟩ = some (.int .i64 a.tie) := hrowb.cell 1
              have HSR := Lib.hid hSoR
              have HboxR := Lib.hid hboxR
              have HvR := Lib.hid hvR
              have hlast := Hlast.out
              clear hSR hboxR hvR hSoR hrowb d0 d1 d2 d3 hsR f0
              rcases j with _ | i
              · have hti := trimIn_zero hlast
                have q1 : (0 : Int) ≤ (c.vers.length : Int) := by omega
                clear hlast
                have htv : trimV c.vers a = c.vers.drop (0) := by unfold trimV; rw [hti]
                go_wp2_with (with_reducible refine stopDst 57 rfl ?_)
                unfold Hid
                refine wpList_cutV TVer rfl (.tmp 55) (.tmp 56) rfl rfl rfl (by rfl) verCs_len HvR.out (by omega) ?_
                intro A8 n8 c8 hn8 hcut
                have Hn8 := Lib.hid hn8
                have Hcut := Lib.hid hcut
                clear hn8 hcut
                go_wp2_with (with_reducible refine stopDst 59 rfl ?_)
                unfold Hid
                have r1 := HboxR.out.set_ 1 (.slice A8 n8 c8)
                have r2 : Same (fun q => q ≠ wo.heap.size) wR (wR.setCell ⟨wo.heap.size, 1, none⟩ (.slice A8 n8 c8)) := (Same.refl _ _).setCell (fun _ h => h rfl) _
                revert r1 r2
                generalize wR.setCell ⟨wo.heap.size, 1, none⟩ (.slice A8 n8 c8) = W8
                intro r1 r2
                simp only [List.set_cons_succ, List.set_cons_zero] at r1
                have hv8 := Hcut.out.keep (r2.mono fun q _ hq => hq.2)
                have hS8 : Same (fun _ => True) wo W8 := HSR.out.trans' r2 fun j hj _ => by omega
                obtain ⟨a0, a1, a2, a3, a4, a5, a6, a7, a8, a9, a10, a11, -⟩ := cel_cells r1
                have z8 := r1.lt
                have Hv8 := Lib.hid hv8
                have HS8 := Lib.hid hS8
                clear r1 r2 hv8 hS8 t0 t1 f1 zb
                cases hl : c.locked
                · rw [hl] at a2
                  by_cases h0 : n8 = 0
                  · have hf : trimC a cs[k] = [] := by
                      rw [← Hck.out]; unfold trimC keptB; rw [htv, List.drop_eq_nil_of_le (by have := Hn8.out; omega)]
                      simp [hl]
                    have Hf := Lib.hid hf
                    have e1 : (n8 : Int) = 0 := by omega
                    clear hf htv h0 hl
                    go_wp2
                    go_roundw
                    case rel => exact ⟨k + 1, by go_num, Hrel.out.next hlt Hf.out HS8.out⟩
                    case measure => simp [intOf]; omega
                  · have e1 : (0 : Int) < (n8 : Int) := by omega
                    have hf : trimC a cs[k] = [{ c with vers := c.vers.drop (0) }] := by
                      rw [← Hck.out]; unfold trimC keptB; rw [htv]
                      rw [if_pos]
                      simp only [hl, Bool.false_or, Bool.not_eq_true', List.isEmpty_eq_false_iff]
                      intro e
                      have := congrArg List.length e
                      rw [List.length_drop] at this
                      have h8 := Hn8.out
                      simp only [List.length_nil] at this
                      omega
                    have Hf := Lib.hid hf
                    clear hf htv
                    go_wp2_with (at_builtin; refine stopAt ?_)
                    unfold Hid
                    refine wpList_appKD (c := { c with vers := c.vers.drop (0) }) (B := w2.heap.size) (Bv := w.heap.size + 1) rfl (.tmp 67) (.tmp 69) rfl rfl rfl (by first | rfl | simp) (by simp [celCs, lckCs, hl]) Hrel.out (trimC_len a) hlt Hf.out hn (by omega) Hv8.out (fun q h => h.1) (Same.refl _ _) HS8.out ?_
                    intro v' w9 Hrel9
                    go_wp2
                    go_roundw
                    case rel => exact ⟨k + 1, by go_num, Hrel9.out⟩
                    case measure => simp [intOf]; omega
                · rw [hl] at a2
                  have hf : trimC a cs[k] = [{ c with vers := c.vers.drop (0) }] := by
                    rw [← Hck.out]; unfold trimC keptB; rw [htv]
                    simp [hl]
                  have Hf := Lib.hid hf
                  clear hf htv
                  go_wp2_with (at_builtin; refine stopAt ?_)
                  unfold Hid
                  refine wpList_appKD (c := { c with vers := c.vers.drop (0) }) (B := w2.heap.size) (Bv := w.heap.size + 1) rfl (.tmp 67) (.tmp 69) rfl rfl rfl (by first | rfl | simp) (by simp [celCs, lckCs, hl]) Hrel.out (trimC_len a) hlt Hf.out hn (by omega) Hv8.out (fun q h => h.1) (Same.refl _ _) HS8.out ?_
                  intro v' w9 Hrel9
                  go_wp2
                  go_roundw
                  case rel => exact ⟨k + 1, by go_num, Hrel9.out⟩
                  case measure => simp [intOf]; omega
              · have hi : i < c.vers.length := by omega
                have hti := trimIn_succ hi hlast
                obtain ⟨adR, eR, -, -, -, dR, -⟩ := VerR.cells (HvR.out.row verCs_len) hi
                have q1 : (0 : Int) < (i : Int) + 1 := by omega
                have q2 : (0 : Int) ≤ (i : Int) := by omega
                have q3 : (i : Int) < (c.vers.length : Int) := by omega
                have q4 : (0 : Int) ≤ (i : Int) + 1 := by omega
                have q5 : (i : Int) + 1 ≤ (c.vers.length : Int) := by omega
                injection eR with eR
                subst eR
                clear hlast
                cases hd : c.vers[i].drop
                · rw [hd] at dR hti
                  rw [if_neg (by simp)] at hti
                  clear hd
                  have htv : trimV c.vers a = c.vers.drop (i) := by unfold trimV; rw [hti]
                  go_wp2_with (with_reducible refine stopDst 57 rfl ?_)
                  unfold Hid
                  refine wpList_cutV TVer rfl (.tmp 55) (.tmp 56) rfl rfl rfl (by first | rfl | simp | omega) verCs_len HvR.out (by omega) ?_
                  intro A8 n8 c8 hn8 hcut
                  have Hn8 := Lib.hid hn8
                  have Hcut := Lib.hid hcut
                  clear hn8 hcut
                  go_wp2_with (with_reducible refine stopDst 59 rfl ?_)
                  unfold Hid
                  have r1 := HboxR.out.set_ 1 (.slice A8 n8 c8)
                  have r2 : Same (fun q => q ≠ wo.heap.size) wR (wR.setCell ⟨wo.heap.size, 1, none⟩ (.slice A8 n8 c8)) := (Same.refl _ _).setCell (fun _ h => h rfl) _
                  revert r1 r2
                  generalize wR.setCell ⟨wo.heap.size, 1, none⟩ (.slice A8 n8 c8) = W8
                  intro r1 r2
                  simp only [List.set_cons_succ, List.set_cons_zero] at r1
                  have hv8 := Hcut.out.keep (r2.mono fun q _ hq => hq.2)
                  have hS8 : Same (fun _ => True) wo W8 := HSR.out.trans' r2 fun j hj _ => by omega
                  obtain ⟨a0, a1, a2, a3, a4, a5, a6, a7, a8, a9, a10, a11, -⟩ := cel_cells r1
                  have z8 := r1.lt
                  have Hv8 := Lib.hid hv8
                  have HS8 := Lib.hid hS8
                  clear r1 r2 hv8 hS8 t0 t1 f1 zb
                  cases hl : c.locked
                  · rw [hl] at a2
                    by_cases h0 : n8 = 0
                    · have hf : trimC a cs[k] = [] := by
                        rw [← Hck.out]; unfold trimC keptB; rw [htv, List.drop_eq_nil_of_le (by have := Hn8.out; omega)]
                        simp [hl]
                      have Hf := Lib.hid hf
                      have e1 : (n8 : Int) = 0 := by omega
                      clear hf htv h0 hl
                      go_wp2
                      go_roundw
                      case rel => exact ⟨k + 1, by go_num, Hrel.out.next hlt Hf.out HS8.out⟩
                      case measure => simp [intOf]; omega
                    · have e1 : (0 : Int) < (n8 : Int) := by omega
                      have hf : trimC a cs[k] = [{ c with vers := c.vers.drop (i) }] := by
                        rw [← Hck.out]; unfold trimC keptB; rw [htv]
                        rw [if_pos]
                        simp only [hl, Bool.false_or, Bool.not_eq_true', List.isEmpty_eq_false_iff]
                        intro e
                        have := congrArg List.length e
                        rw [List.length_drop] at this
                        have h8 := Hn8.out
                        simp only [List.length_nil] at this
                        omega
                      have Hf := Lib.hid hf
                      clear hf htv
                      go_wp2_with (at_builtin; refine stopAt ?_)
                      unfold Hid
                      refine wpList_appKD (c := { c with vers := c.vers.drop (i) }) (B := w2.heap.size) (Bv := w.heap.size + 1) rfl (.tmp 67) (.tmp 69) rfl rfl rfl (by first | rfl | simp) (by simp [celCs, lckCs, hl]) Hrel.out (trimC_len a) hlt Hf.out hn (by omega) Hv8.out (fun q h => h.1) (Same.refl _ _) HS8.out ?_
                      intro v' w9 Hrel9
                      go_wp2
                      go_roundw
                      case rel => exact ⟨k + 1, by go_num, Hrel9.out⟩
                      case measure => simp [intOf]; omega
                  · rw [hl] at a2
                    have hf : trimC a cs[k] = [{ c with vers := c.vers.drop (i) }] := by
                      rw [← Hck.out]; unfold trimC keptB; rw [htv]
                      simp [hl]
                    have Hf := Lib.hid hf
                    clear hf htv
                    go_wp2_with (at_builtin; refine stopAt ?_)
                    unfold Hid
                    refine wpList_appKD (c := { c with vers := c.vers.drop (i) }) (B := w2.heap.size) (Bv := w.heap.size + 1) rfl (.tmp 67) (.tmp 69) rfl rfl rfl (by first | rfl | simp) (by simp [celCs, lckCs, hl]) Hrel.out (trimC_len a) hlt Hf.out hn (by omega) Hv8.out (fun q h => h.1) (Same.refl _ _) HS8.out ?_
                    intro v' w9 Hrel9
                    go_wp2
                    go_roundw
                    case rel => exact ⟨k + 1, by go_num, Hrel9.out⟩
                    case measure => simp [intOf]; omega
                · rw [hd] at dR hti
                  rw [if_pos rfl] at hti
                  clear hd
                  have htv : trimV c.vers a = c.vers.drop (i + 1) := by unfold trimV; rw [hti]
                  go_wp2_with (with_reducible refine stopDst 57 rfl ?_)
                  unfold Hid
                  refine wpList_cutV TVer rfl (.tmp 55) (.tmp 56) rfl rfl rfl (by first | rfl | simp | omega) verCs_len HvR.out (by omega) ?_
                  intro A8 n8 c8 hn8 hcut
                  have Hn8 := Lib.hid hn8
                  have Hcut := Lib.hid hcut
                  clear hn8 hcut
                  go_wp2_with (with_reducible refine stopDst 59 rfl ?_)
                  unfold Hid
                  have r1 := HboxR.out.set_ 1 (.slice A8 n8 c8)
                  have r2 : Same (fun q => q ≠ wo.heap.size) wR (wR.setCell ⟨wo.heap.size, 1, none⟩ (.slice A8 n8 c8)) := (Same.refl _ _).setCell (fun _ h => h rfl) _
                  revert r1 r2
                  generalize wR.setCell ⟨wo.heap.size, 1, none⟩ (.slice A8 n8 c8) = W8
                  intro r1 r2
                  simp only [List.set_cons_succ, List.set_cons_zero] at r1
                  have hv8 := Hcut.out.keep (r2.mono fun q _ hq => hq.2)
                  have hS8 : Same (fun _ => True) wo W8 := HSR.out.trans' r2 fun j hj _ => by omega
                  obtain ⟨a0, a1, a2, a3, a4, a5, a6, a7, a8, a9, a10, a11, -⟩ := cel_cells r1
                  have z8 := r1.lt
                  have Hv8 := Lib.hid hv8
                  have HS8 := Lib.hid hS8
                  clear r1 r2 hv8 hS8 t0 t1 f1 zb
                  cases hl : c.locked
                  · rw [hl] at a2
                    by_cases h0 : n8 = 0
                    · have hf : trimC a cs[k] = [] := by
                        rw [← Hck.out]; unfold trimC keptB; rw [htv, List.drop_eq_nil_of_le (by have := Hn8.out; omega)]
                        simp [hl]
                      have Hf := Lib.hid hf
                      have e1 : (n8 : Int) = 0 := by omega
                      clear hf htv h0 hl
                      go_wp2
                      go_roundw
                      case rel => exact ⟨k + 1, by go_num, Hrel.out.next hlt Hf.out HS8.out⟩
                      case measure => simp [intOf]; omega
                    · have e1 : (0 : Int) < (n8 : Int) := by omega
                      have hf : trimC a cs[k] = [{ c with vers := c.vers.drop (i + 1) }] := by
                        rw [← Hck.out]; unfold trimC keptB; rw [htv]
                        rw [if_pos]
                        simp only [hl, Bool.false_or, Bool.not_eq_true', List.isEmpty_eq_false_iff]
                        intro e
                        have := congrArg List.length e
                        rw [List.length_drop] at this
                        have h8 := Hn8.out
                        simp only [List.length_nil] at this
                        omega
                      have Hf := Lib.hid hf
                      clear hf htv
                      go_wp2_with (at_builtin; refine stopAt ?_)
                      unfold Hid
                      refine wpList_appKD (c := { c with vers := c.vers.drop (i + 1) }) (B := w2.heap.size) (Bv := w.heap.size + 1) rfl (.tmp 67) (.tmp 69) rfl rfl rfl (by first | rfl | simp) (by simp [celCs, lckCs, hl]) Hrel.out (trimC_len a) hlt Hf.out hn (by omega) Hv8.out (fun q h => h.1) (Same.refl _ _) HS8.out ?_
                      intro v' w9 Hrel9
                      go_wp2
                      go_roundw
                      case rel => exact ⟨k + 1, by go_num, Hrel9.out⟩
                      case measure => simp [intOf]; omega
                  · rw [hl] at a2
                    have hf : trimC a cs[k] = [{ c with vers := c.vers.drop (i + 1) }] := by
                      rw [← Hck.out]; unfold trimC keptB; rw [htv]
                      simp [hl]
                    have Hf := Lib.hid hf
                    clear hf htv
                    go_wp2_with (at_builtin; refine stopAt ?_)
                    unfold Hid
                    refine wpList_appKD (c := { c with vers := c.vers.drop (i + 1) }) (B := w2.heap.size) (Bv := w.heap.size + 1) rfl (.tmp 67) (.tmp 69) rfl rfl rfl (by first | rfl | simp) (by simp [celCs, lckCs, hl]) Hrel.out (trimC_len a) hlt Hf.out hn (by omega) Hv8.out (fun q h => h.1) (Same.refl _ _) HS8.out ?_
                    intro v' w9 Hrel9
                    go_wp2
                    go_roundw
                    case rel => exact ⟨k + 1, by go_num, Hrel9.out⟩
                    case measure => simp [intOf]; omega
        · have hjn : j = c.vers.length := by omega
          have hlast := trimIn_last Hcs.out hj hlow fun h => absurd h hjl
          have x3 : decide ((j : Int) < (c.vers.length : Int)) = false := decide_eq_false (by omega)
          have x4 : (c.vers.length : Int) ≤ (j : Int) := by omega
          have Hlast := Lib.hid hlast
          have Hjn := Lib.hid hjn
          clear hlow hlast hSi hjn
          go_wp2
          refine wp_region_eq_lit (vs := [(.int .i64 j), (.pointer (some ⟨wo.heap.size, 1, none⟩)), (.slice Au c.vers.length cu), (.int .i64 c.vers.length), (.bool false), (.bool false), undef, undef, undef, undef, undef, undef, undef, undef, undef, (.bool false)]) (by kernel_rfl) (by kernel_rfl) rfl rfl ?_ ?_
          · refine ⟨?_, ?_, ?_, ?_, ?_, ?_, ?_, ?_, ?_, ?_, ?_, ?_, ?_, ?_, ?_, ?_, trivial⟩
            · intro ac wc hs hd hz hf hw K hK
              have e0 : ac.eval (.tmp 9) = (.int .i64 j) := hf 9 rfl
              clear hd hz hf hw
              simp only [Region.wanted, if_true, Oper.wp, execOp, resolve, List.map_toArray, List.map_cons, List.map_nil, Option.map_some, Option.map_none, e0]
              go_simp
              exact hK _ _ rfl (Same.refl _ _)
            · intro ac wc hs hd hz hf hw K hK
              have e0 : ac.eval (.tmp 8) = (.pointer (some ⟨wo.heap.size, 0, none⟩)) := hf 8 rfl
              clear hd hz hf hw
              simp only [Region.wanted, if_true, Oper.wp, execOp, resolve, List.map_toArray, List.map_cons, List.map_nil, Option.map_some, Option.map_none, e0]
              go_simp
              exact hK _ _ rfl (Same.refl _ _)
            · intro ac wc hs hd hz hf hw K hK
              have e0 : ac.eval (.tmp 23) = (.pointer (some ⟨wo.heap.size, 1, none⟩)) := hw 1 rfl
              have m0 : wc.cell? ⟨wo.heap.size, 1, none⟩ = some (.slice Au c.vers.length cu) := hs.cell (p := ⟨wo.heap.size, 1, none⟩) trivial a1
              clear hd hz hf hw
              simp only [Region.wanted, if_true, Oper.wp, execOp, resolve, List.map_toArray, List.map_cons, List.map_nil, Option.map_some, Option.map_none, e0]
              go_simp
              exact hK _ _ rfl (Same.refl _ _)
            · intro ac wc hs hd hz hf hw K hK
              have e0 : ac.eval (.tmp 24) = (.slice Au c.vers.length cu) := hw 2 rfl
              clear hd hz hf hw
              simp only [Region.wanted, if_true, Oper.wp, execOp, resolve, List.map_toArray, List.map_cons, List.map_nil, Option.map_some, Option.map_none, e0]
              go_simp
              exact hK _ _ rfl (Same.refl _ _)
            · intro ac wc hs hd hz hf hw K hK
              have e0 : ac.eval (.tmp 22) = (.int .i64 j) := hw 0 rfl
              have e1 : ac.eval (.tmp 25) = (.int .i64 c.vers.length) := hw 3 rfl
              clear hd hz hf hw
              simp only [Region.wanted, if_true, Oper.wp, execOp, resolve, List.map_toArray, List.map_cons, List.map_nil, Option.map_some, Option.map_none, e0, e1]
              go_simp
              exact hK _ _ rfl (Same.refl _ _)
            · intro ac wc hs hd hz hf hw K hK
              have e0 : ac.eval (.tmp 26) = (.bool false) := hw 4 rfl
              clear hd hz hf hw
              simp only [Region.wanted, if_true, Oper.wp, execOp, resolve, List.map_toArray, List.map_cons, List.map_nil, Option.map_some, Option.map_none, e0]
              go_simp
              exact hK _ _ rfl (Same.refl _ _)
            · intro ac wc hs hd hz hf hw K hK
              have eg : ac.eval (.tmp 27) = .bool false := hw 5 rfl
              refine skip_wanted (j := 5) (d := 27) (b := false) rfl rfl hz (of_decide_eq_true rfl) eg ?_
              clear eg
              exact hK _ _ rfl (Same.refl _ _)
            · intro ac wc hs hd hz hf hw K hK
              have eg : ac.eval (.tmp 27) = .bool false := hw 5 rfl
              refine skip_wanted (j := 5) (d := 27) (b := false) rfl rfl hz (of_decide_eq_true rfl) eg ?_
              clear eg
              exact hK _ _ rfl (Same.refl _ _)
            · intro ac wc hs hd hz hf hw K hK
              have eg : ac.eval (.tmp 27) = .bool false := hw 5 rfl
              refine skip_wanted (j := 5) (d := 27) (b := false) rfl rfl hz (of_decide_eq_true rfl) eg ?_
              clear eg
              exact hK _ _ rfl (Same.refl _ _)
            · intro ac wc hs hd hz hf hw K hK
              have eg : ac.eval (.tmp 27) = .bool false := hw 5 rfl
              refine skip_wanted (j := 5) (d := 27) (b := false) rfl rfl hz (of_decide_eq_true rfl) eg ?_
              clear eg
              exact hK _ _ rfl (Same.refl _ _)
            · intro ac wc hs hd hz hf hw K hK
              have eg : ac.eval (.tmp 27) = .bool false := hw 5 rfl
              refine skip_wanted (j := 5) (d := 27) (b := false) rfl rfl hz (of_decide_eq_true rfl) eg ?_
              clear eg
              exact hK _ _ rfl (Same.refl _ _)
            · intro ac wc hs hd hz hf hw K hK
              have eg : ac.eval (.tmp 27) = .bool false := hw 5 rfl
              refine skip_wanted (j := 5) (d := 27) (b := false) rfl rfl hz (of_decide_eq_true rfl) eg ?_
              clear eg
              exact hK _ _ rfl (Same.refl _ _)
            · intro ac wc hs hd hz hf hw K hK
              have eg : ac.eval (.tmp 27) = .bool false := hw 5 rfl
              refine skip_wanted (j := 5) (d := 27) (b := false) rfl rfl hz (of_decide_eq_true rfl) eg ?_
              clear eg
              exact hK _ _ rfl (Same.refl _ _)
            · intro ac wc hs hd hz hf hw K hK
              have eg : ac.eval (.tmp 27) = .bool false := hw 5 rfl
              refine skip_wanted (j := 5) (d := 27) (b := false) rfl rfl hz (of_decide_eq_true rfl) eg ?_
              clear eg
              exact hK _ _ rfl (Same.refl _ _)
            · intro ac wc hs hd hz hf hw K hK
              have eg : ac.eval (.tmp 27) = .bool false := hw 5 rfl
              refine skip_wanted (j := 5) (d := 27) (b := false) rfl rfl hz (of_decide_eq_true rfl) eg ?_
              clear eg
              exact hK _ _ rfl (Same.refl _ _)
            · intro ac wc hs hd hz hf hw K hK
              have e0 : ac.eval (.tmp 27) = (.bool false) := hw 5 rfl
              have e1 : ac.eval (.tmp 36) = undef := hw 14 rfl
              clear hd hz hf hw
              simp only [Region.wanted, if_true, Oper.wp, execOp, resolve, List.map_toArray, List.map_cons, List.map_nil, Option.map_some, Option.map_none, e0, e1]
              go_simp
              exact hK _ _ rfl (Same.refl _ _)
          · intro wR hsR
            simp only [putAll, Act.put, List.setIfInBounds_toArray, List.set_cons_succ, List.set_cons_zero]
            have hSR := HSi.out.trans hsR
            have hboxR := Hbox7.out.keep hSR trivial
            have hvR := Hv7.out.keepAll hSR
            have hSoR := HS7.out.trans hSR
            have hrowb := Hrel.out.row.keep hSoR trivial
            obtain ⟨-, a1, -, -, -, -, -, -, -, -, -, -, f0, f1, -⟩ := cel_cells hboxR
            have zb := hboxR.lt
            have t0 : wR.cell? ⟨w.heap.size, 0, none⟩ = some (.int .i64 a.wall) := hrowb.cell 0
            have t1 : wR.cell? ⟨w.heap.size, 1, none⟩ = some (.int .i64 a.tie) := hrowb.cell 1
            have HSR := Lib.hid hSoR
            have HboxR := Lib.hid hboxR
            have HvR := Lib.hid hvR
            have hlast := Hlast.out
            have hjn := Hjn.out
            clear hSR hboxR hvR hSoR hrowb hsR f0 x3 x4
            rcases j with _ | i
            · have hti := trimIn_zero hlast
              have q1 : (0 : Int) ≤ (c.vers.length : Int) := by omega
              clear hlast hjn
              have htv : trimV c.vers a = c.vers.drop (0) := by unfold trimV; rw [hti]
              go_wp2_with (with_reducible refine stopDst 57 rfl ?_)
              unfold Hid
              refine wpList_cutV TVer rfl (.tmp 55) (.tmp 56) rfl rfl rfl (by rfl) verCs_len HvR.out (by omega) ?_
              intro A8 n8 c8 hn8 hcut
              have Hn8 := Lib.hid hn8
              have Hcut := Lib.hid hcut
              clear hn8 hcut
              go_wp2_with (with_reducible refine stopDst 59 rfl ?_)
              unfold Hid
              have r1 := HboxR.out.set_ 1 (.slice A8 n8 c8)
              have r2 : Same (fun q => q ≠ wo.heap.size) wR (wR.setCell ⟨wo.heap.size, 1, none⟩ (.slice A8 n8 c8)) := (Same.refl _ _).setCell (fun _ h => h rfl) _
              revert r1 r2
              generalize wR.setCell ⟨wo.heap.size, 1, none⟩ (.slice A8 n8 c8) = W8
              intro r1 r2
              simp only [List.set_cons_succ, List.set_cons_zero] at r1
              have hv8 := Hcut.out.keep (r2.mono fun q _ hq => hq.2)
              have hS8 : Same (fun _ => True) wo W8 := HSR.out.trans' r2 fun j hj _ => by omega
              obtain ⟨a0, a1, a2, a3, a4, a5, a6, a7, a8, a9, a10, a11, -⟩ := cel_cells r1
              have z8 := r1.lt
              have Hv8 := Lib.hid hv8
              have HS8 := Lib.hid hS8
              clear r1 r2 hv8 hS8 t0 t1 f1 zb
              cases hl : c.locked
              · rw [hl] at a2
                by_cases h0 : n8 = 0
                · have hf : trimC a cs[k] = [] := by
                    rw [← Hck.out]; unfold trimC keptB; rw [htv, List.drop_eq_nil_of_le (by have := Hn8.out; omega)]
                    simp [hl]
                  have Hf := Lib.hid hf
                  have e1 : (n8 : Int) = 0 := by omega
                  clear hf htv h0 hl
                  go_wp2
                  go_roundw
                  case rel => exact ⟨k + 1, by go_num, Hrel.out.next hlt Hf.out HS8.out⟩
                  case measure => simp [intOf]; omega
                · have e1 : (0 : Int) < (n8 : Int) := by omega
                  have hf : trimC a cs[k] = [{ c with vers := c.vers.drop (0) }] := by
                    rw [← Hck.out]; unfold trimC keptB; rw [htv]
                    rw [if_pos]
                    simp only [hl, Bool.false_or, Bool.not_eq_true', List.isEmpty_eq_false_iff]
                    intro e
                    have := congrArg List.length e
                    rw [List.length_drop] at this
                    have h8 := Hn8.out
                    simp only [List.length_nil] at this
                    omega
                  have Hf := Lib.hid hf
                  clear hf htv
                  go_wp2_with (at_builtin; refine stopAt ?_)
                  unfold Hid
                  refine wpList_appKD (c := { c with vers := c.vers.drop (0) }) (B := w2.heap.size) (Bv := w.heap.size + 1) rfl (.tmp 67) (.tmp 69) rfl rfl rfl (by first | rfl | simp) (by simp [celCs, lckCs, hl]) Hrel.out (trimC_len a) hlt Hf.out hn (by omega) Hv8.out (fun q h => h.1) (Same.refl _ _) HS8.out ?_
                  intro v' w9 Hrel9
                  go_wp2
                  go_roundw
                  case rel => exact ⟨k + 1, by go_num, Hrel9.out⟩
                  case measure => simp [intOf]; omega
              · rw [hl] at a2
                have hf : trimC a cs[k] = [{ c with vers := c.vers.drop (0) }] := by
                  rw [← Hck.out]; unfold trimC keptB; rw [htv]
                  simp [hl]
                have Hf := Lib.hid hf
                clear hf htv
                go_wp2_with (at_builtin; refine stopAt ?_)
                unfold Hid
                refine wpList_appKD (c := { c with vers := c.vers.drop (0) }) (B := w2.heap.size) (Bv := w.heap.size + 1) rfl (.tmp 67) (.tmp 69) rfl rfl rfl (by first | rfl | simp) (by simp [celCs, lckCs, hl]) Hrel.out (trimC_len a) hlt Hf.out hn (by omega) Hv8.out (fun q h => h.1) (Same.refl _ _) HS8.out ?_
                intro v' w9 Hrel9
                go_wp2
                go_roundw
                case rel => exact ⟨k + 1, by go_num, Hrel9.out⟩
                case measure => simp [intOf]; omega
            · have hi : i < c.vers.length := by omega
              have hti := trimIn_succ hi hlast
              obtain ⟨adR, eR, -, -, -, dR, -⟩ := VerR.cells (HvR.out.row verCs_len) hi
              have q1 : (0 : Int) < (i : Int) + 1 := by omega
              have q2 : (0 : Int) ≤ (i : Int) := by omega
              have q3 : (i : Int) < (c.vers.length : Int) := by omega
              have q4 : (0 : Int) ≤ (i : Int) + 1 := by omega
              have q5 : (i : Int) + 1 ≤ (c.vers.length : Int) := by omega
              subst eR
              clear hlast hjn
              cases hd : c.vers[i].drop
              · rw [hd] at dR hti
                rw [if_neg (by simp)] at hti
                clear hd
                have htv : trimV c.vers a = c.vers.drop (i) := by unfold trimV; rw [hti]
                go_wp2_with (with_reducible refine stopDst 57 rfl ?_)
                unfold Hid
                refine wpList_cutV TVer rfl (.tmp 55) (.tmp 56) rfl rfl rfl (by first | rfl | simp | omega) verCs_len HvR.out (by omega) ?_
                intro A8 n8 c8 hn8 hcut
                have Hn8 := Lib.hid hn8
                have Hcut := Lib.hid hcut
                clear hn8 hcut
                go_wp2_with (with_reducible refine stopDst 59 rfl ?_)
                unfold Hid
                have r1 := HboxR.out.set_ 1 (.slice A8 n8 c8)
                have r2 : Same (fun q => q ≠ wo.heap.size) wR (wR.setCell ⟨wo.heap.size, 1, none⟩ (.slice A8 n8 c8)) := (Same.refl _ _).setCell (fun _ h => h rfl) _
                revert r1 r2
                generalize wR.setCell ⟨wo.heap.size, 1, none⟩ (.slice A8 n8 c8) = W8
                intro r1 r2
                simp only [List.set_cons_succ, List.set_cons_zero] at r1
                have hv8 := Hcut.out.keep (r2.mono fun q _ hq => hq.2)
                have hS8 : Same (fun _ => True) wo W8 := HSR.out.trans' r2 fun j hj _ => by omega
                obtain ⟨a0, a1, a2, a3, a4, a5, a6, a7, a8, a9, a10, a11, -⟩ := cel_cells r1
                have z8 := r1.lt
                have Hv8 := Lib.hid hv8
                have HS8 := Lib.hid hS8
                clear r1 r2 hv8 hS8 t0 t1 f1 zb
                cases hl : c.locked
                · rw [hl] at a2
                  by_cases h0 : n8 = 0
                  · have hf : trimC a cs[k] = [] := by
                      rw [← Hck.out]; unfold trimC keptB; rw [htv, List.drop_eq_nil_of_le (by have := Hn8.out; omega)]
                      simp [hl]
                    have Hf := Lib.hid hf
                    have e1 : (n8 : Int) = 0 := by omega
                    clear hf htv h0 hl
                    go_wp2
                    go_roundw
                    case rel => exact ⟨k + 1, by go_num, Hrel.out.next hlt Hf.out HS8.out⟩
                    case measure => simp [intOf]; omega
                  · have e1 : (0 : Int) < (n8 : Int) := by omega
                    have hf : trimC a cs[k] = [{ c with vers := c.vers.drop (i) }] := by
                      rw [← Hck.out]; unfold trimC keptB; rw [htv]
                      rw [if_pos]
                      simp only [hl, Bool.false_or, Bool.not_eq_true', List.isEmpty_eq_false_iff]
                      intro e
                      have := congrArg List.length e
                      rw [List.length_drop] at this
                      have h8 := Hn8.out
                      simp only [List.length_nil] at this
                      omega
                    have Hf := Lib.hid hf
                    clear hf htv
                    go_wp2_with (at_builtin; refine stopAt ?_)
                    unfold Hid
                    refine wpList_appKD (c := { c with vers := c.vers.drop (i) }) (B := w2.heap.size) (Bv := w.heap.size + 1) rfl (.tmp 67) (.tmp 69) rfl rfl rfl (by first | rfl | simp) (by simp [celCs, lckCs, hl]) Hrel.out (trimC_len a) hlt Hf.out hn (by omega) Hv8.out (fun q h => h.1) (Same.refl _ _) HS8.out ?_
                    intro v' w9 Hrel9
                    go_wp2
                    go_roundw
                    case rel => exact ⟨k + 1, by go_num, Hrel9.out⟩
                    case measure => simp [intOf]; omega
                · rw [hl] at a2
                  have hf : trimC a cs[k] = [{ c with vers := c.vers.drop (i) }] := by
                    rw [← Hck.out]; unfold trimC keptB; rw [htv]
                    simp [hl]
                  have Hf := Lib.hid hf
                  clear hf htv
                  go_wp2_with (at_builtin; refine stopAt ?_)
                  unfold Hid
                  refine wpList_appKD (c := { c with vers := c.vers.drop (i) }) (B := w2.heap.size) (Bv := w.heap.size + 1) rfl (.tmp 67) (.tmp 69) rfl rfl rfl (by first | rfl | simp) (by simp [celCs, lckCs, hl]) Hrel.out (trimC_len a) hlt Hf.out hn (by omega) Hv8.out (fun q h => h.1) (Same.refl _ _) HS8.out ?_
                  intro v' w9 Hrel9
                  go_wp2
                  go_roundw
                  case rel => exact ⟨k + 1, by go_num, Hrel9.out⟩
                  case measure => simp [intOf]; omega
              · rw [hd] at dR hti
                rw [if_pos rfl] at hti
                clear hd
                have htv : trimV c.vers a = c.vers.drop (i + 1) := by unfold trimV; rw [hti]
                go_wp2_with (with_reducible refine stopDst 57 rfl ?_)
                unfold Hid
                refine wpList_cutV TVer rfl (.tmp 55) (.tmp 56) rfl rfl rfl (by first | rfl | simp | omega) verCs_len HvR.out (by omega) ?_
                intro A8 n8 c8 hn8 hcut
                have Hn8 := Lib.hid hn8
                have Hcut := Lib.hid hcut
                clear hn8 hcut
                go_wp2_with (with_reducible refine stopDst 59 rfl ?_)
                unfold Hid
                have r1 := HboxR.out.set_ 1 (.slice A8 n8 c8)
                have r2 : Same (fun q => q ≠ wo.heap.size) wR (wR.setCell ⟨wo.heap.size, 1, none⟩ (.slice A8 n8 c8)) := (Same.refl _ _).setCell (fun _ h => h rfl) _
                revert r1 r2
                generalize wR.setCell ⟨wo.heap.size, 1, none⟩ (.slice A8 n8 c8) = W8
                intro r1 r2
                simp only [List.set_cons_succ, List.set_cons_zero] at r1
                have hv8 := Hcut.out.keep (r2.mono fun q _ hq => hq.2)
                have hS8 : Same (fun _ => True) wo W8 := HSR.out.trans' r2 fun j hj _ => by omega
                obtain ⟨a0, a1, a2, a3, a4, a5, a6, a7, a8, a9, a10, a11, -⟩ := cel_cells r1
                have z8 := r1.lt
                have Hv8 := Lib.hid hv8
                have HS8 := Lib.hid hS8
                clear r1 r2 hv8 hS8 t0 t1 f1 zb
                cases hl : c.locked
                · rw [hl] at a2
                  by_cases h0 : n8 = 0
                  · have hf : trimC a cs[k] = [] := by
                      rw [← Hck.out]; unfold trimC keptB; rw [htv, List.drop_eq_nil_of_le (by have := Hn8.out; omega)]
                      simp [hl]
                    have Hf := Lib.hid hf
                    have e1 : (n8 : Int) = 0 := by omega
                    clear hf htv h0 hl
                    go_wp2
                    go_roundw
                    case rel => exact ⟨k + 1, by go_num, Hrel.out.next hlt Hf.out HS8.out⟩
                    case measure => simp [intOf]; omega
                  · have e1 : (0 : Int) < (n8 : Int) := by omega
                    have hf : trimC a cs[k] = [{ c with vers := c.vers.drop (i + 1) }] := by
                      rw [← Hck.out]; unfold trimC keptB; rw [htv]
                      rw [if_pos]
                      simp only [hl, Bool.false_or, Bool.not_eq_true', List.isEmpty_eq_false_iff]
                      intro e
                      have := congrArg List.length e
                      rw [List.length_drop] at this
                      have h8 := Hn8.out
                      simp only [List.length_nil] at this
                      omega
                    have Hf := Lib.hid hf
                    clear hf htv
                    go_wp2_with (at_builtin; refine stopAt ?_)
                    unfold Hid
                    refine wpList_appKD (c := { c with vers := c.vers.drop (i + 1) }) (B := w2.heap.size) (Bv := w.heap.size + 1) rfl (.tmp 67) (.tmp 69) rfl rfl rfl (by first | rfl | simp) (by simp [celCs, lckCs, hl]) Hrel.out (trimC_len a) hlt Hf.out hn (by omega) Hv8.out (fun q h => h.1) (Same.refl _ _) HS8.out ?_
                    intro v' w9 Hrel9
                    go_wp2
                    go_roundw
                    case rel => exact ⟨k + 1, by go_num, Hrel9.out⟩
                    case measure => simp [intOf]; omega
                · rw [hl] at a2
                  have hf : trimC a cs[k] = [{ c with vers := c.vers.drop (i + 1) }] := by
                    rw [← Hck.out]; unfold trimC keptB; rw [htv]
                    simp [hl]
                  have Hf := Lib.hid hf
                  clear hf htv
                  go_wp2_with (at_builtin; refine stopAt ?_)
                  unfold Hid
                  refine wpList_appKD (c := { c with vers := c.vers.drop (i + 1) }) (B := w2.heap.size) (Bv := w.heap.size + 1) rfl (.tmp 67) (.tmp 69) rfl rfl rfl (by first | rfl | simp) (by simp [celCs, lckCs, hl]) Hrel.out (trimC_len a) hlt Hf.out hn (by omega) Hv8.out (fun q h => h.1) (Same.refl _ _) HS8.out ?_
                  intro v' w9 Hrel9
                  go_wp2
                  go_roundw
                  case rel => exact ⟨k + 1, by go_num, Hrel9.out⟩
                  case measure => simp [intOf]; omega
    · obtain rfl : k = cs.length := by omega
      have hown := hrel.own
      rw [List.take_length] at hown
      have Hown := Lib.hid hown
      clear hS hown hrel
      go_wp2
      go_ret
      exact ⟨_, rfl, Hown.out.own (by omega) (by omega), HS02.out.trans HS.out⟩
end Go.Proofs.Ytoldelocfmpccaa
