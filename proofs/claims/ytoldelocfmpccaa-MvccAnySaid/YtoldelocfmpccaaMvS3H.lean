/-
  One of the longer walks of mvcc (written by bundle.py out of: MvS3). No condition.
-/
import Derived.Test.YtoldelocfmpccaaMvS2H
import Derived.Test.YtoldelocfmpccaaQ0
set_option linter.unusedSimpArgs false
set_option linter.unusedVariables false
namespace Go.Proofs.Ytoldelocfmpccaa
open Go.RowKit

theorem OwnR.form3 {α : Type} {f : α → List Value} {n : Nat} {e : TypeId} {w : World} {B : Nat} {v : Value} {l : List α} (h : OwnR f n e w B v l) : ∃ A n c, v = .slice A n c ∧ n ≤ c ∧ c ≤ maxLen := by
  obtain ⟨A, c, h1, h2, h3⟩ := h.form
  exact ⟨A, _, c, h1, h2, h3⟩
/-- What the loop holds. -/
structure WithRel (a : Ver) (l : List Ver) (k : Nat) (bb : Bool) (v : Value) (w wr : World) : Prop where
  le : k ≤ l.length
  own : ∃ O, OwnV wr (w.heap.size + 1) v O ∧ O ++ withR a bb (l.drop k) = withR a false l ∧ O.length ≤ k + bb.toNat
  row : Row wr w.heap.size 69 (verCs a)
  size : w.heap.size + 1 ≤ wr.heap.size
  same : Same (fun _ => True) w wr
set_option maxRecDepth 100000 in
set_option maxHeartbeats 4000000 in
theorem refwith_any (v : Value) (l : List Ver) (a : Ver) (w : World) (hv : VerR w (fun q => q < w.heap.size) v l) (hs : SortV l) (hn : l.length ≤ 1000000) :
    Calls Try.prog 90 #[v, verV a] w (CloneP (putF l a) w) := by
  obtain ⟨A, cp, rfl, hc, hm⟩ := hv.form
  have Hv := Lib.hid hv
  unfold maxLen at hm
  have K := with_put (v := a) hs
  have hrel0 : WithRel a l 0 false (.slice none 0 0) w (w.alloc (.cells (verCs a).toArray 69)) :=
    ⟨Nat.zero_le _, ⟨[], OwnR.nil _ _, by simp, by simp⟩, Row.new _ _ _, by simp, (Same.refl _ _).alloc _⟩
  have Hrel0 := Lib.hid hrel0
  have HK := Lib.hid K
  clear hv hrel0 hs K
  go_enter Try.func90, Try.ntmps90
  go_wp2
  go_loopw [5, 6, 7] (fun v5 b6 i wr => ∃ (k : Nat) (bb : Bool), i = .int .i64 k ∧ b6 = .bool bb ∧ WithRel a l k bb v5 w wr) (fun _ _ i _ => l.length - (intOf i).toNat)
  case atStart => exact ⟨0, false, rfl, rfl, Hrel0.out⟩
  case round =>
    obtain ⟨k, bb, rfl, rfl, hk, ⟨O, hown, heq, hlen⟩, hrow, hsz, hS⟩ := hrel
    obtain ⟨Al, nl, cl, rfl, hl1, hl2⟩ := hown.form3
    unfold maxLen at hl2
    have hpl := hrow.lt
    have t0 : wr.cell? ⟨w.heap.size, 0, none⟩ = some (.int .i64 a.at_.wall) := hrow.cell 0
    have t1 : wr.cell? ⟨w.heap.size, 1, none⟩ = some (.int .i64 a.at_.tie) := hrow.cell 1
    have t2 : wr.cell? ⟨w.heap.size, 2, none⟩ = some (.bool a.drop) := hrow.cell 2
    have t3 : wr.cell? ⟨w.heap.size, 3, none⟩ = some (.string (str a.data)) := hrow.cell 3
    have HS := Lib.hid hS
    have Hrow := Lib.hid hrow
    have Hown := Lib.hid hown
    have Heq := Lib.hid heq
    clear hrow hown heq
    by_cases hlt : k < l.length
    · obtain ⟨ad, rfl, hSad, d0, d1, d2, d3⟩ := VerR.cells (Hv.out.keepAll hS) hlt
      have hdrop : l.drop k = l[k] :: l.drop (k + 1) := List.drop_eq_getElem_cons hlt
      have x1 : (0 : Int) ≤ (k : Int) := by omega
      have x2 : (k : Int) < (l.length : Int) := by omega
      have hab := World.block_lt_of_cell? wr _ d0
      have hSad' : (ad.add (k * 4)).block < w.heap.size := by rw [block_of_add]; exact hSad
      have gl := fun W => refless_any l[k].at_ a.at_ W
      have heq := Heq.out
      rw [hdrop] at heq
      generalize l[k] = x at *
      have HSad := Lib.hid hSad'
      have Hdrop := Lib.hid hdrop
      clear hS hdrop hSad hSad' Heq
      obtain ⟨kd, hkd⟩ : ∃ kd : Nat, (kd = 0 ∧ x.at_ = a.at_) ∨ (kd = 1 ∧ x.at_.wall ≠ a.at_.wall) ∨ (kd = 2 ∧ x.at_.wall = a.at_.wall ∧ x.at_.tie ≠ a.at_.tie) := by
        by_cases h1 : x.at_.wall = a.at_.wall
        · by_cases h2 : x.at_.tie = a.at_.tie
          · exact ⟨0, .inl ⟨rfl, (st_eq _ _).2 ⟨h1, h2⟩⟩⟩
          · exact ⟨2, .inr (.inr ⟨rfl, h1, h2⟩)⟩
        · exact ⟨1, .inr (.inl ⟨rfl, h1⟩)⟩
      cases bb
      · cases hlb : lessB x.at_ a.at_
        · rcases hkd with ⟨-, he⟩ | ⟨-, hw⟩ | ⟨-, hw, ht⟩
          · have heq' : (O ++ [a]) ++ withR a true (l.drop (k + 1)) = withR a false l := by
              rw [← heq]
              simp [withR, hlb, he, less_irrefl]
            have Heq := Lib.hid heq'
            have Hlen0 := Lib.hid (show O.length ≤ k + 1 from by have := hlen; simp at this; omega)
            have Hlen := Lib.hid (show (O ++ [a]).length ≤ k + (true : Bool).toNat from by have := hlen; simp at this ⊢; omega)
            rw [hlb] at gl
            have He := Lib.hid he
            clear he heq heq' hlen
            clear hlb
            go_wp2
            refine wp_region_eq_lit (vs := [(.bool false), (.bool true), (.bool true), (.slice (some ad) l.length cp), (.int .i64 k), (.pointer (some (ad.add (k * 4)))), (.pointer (some (ad.add (k * 4)))), (stV x.at_), (.pointer (some ⟨w.heap.size, 0, none⟩)), (stV a.at_), (.bool false), (.bool true), (.bool true)]) (by kernel_rfl) (by kernel_rfl) rfl rfl ?_ ?_
            · refine ⟨?_, ?_, ?_, ?_, ?_, ?_, ?_, ?_, ?_, ?_, ?_, ?_, ?_, trivial⟩
              · intro ac wc hs hd hz hf hw K hK
                have e0 : ac.eval (.tmp 6) = (.bool false) := hf 6 rfl
                clear hd hz hf hw
                simp only [Region.wanted, if_true, Oper.wp, execOp, resolve, List.map_toArray, List.map_cons, List.map_nil, Option.map_some, Option.map_none, e0]
                go_simp
                exact hK _ _ rfl (Same.refl _ _)
              · intro ac wc hs hd hz hf hw K hK
                have e0 : ac.eval (.tmp 14) = (.bool false) := hw 0 rfl
                clear hd hz hf hw
                simp only [Region.wanted, if_true, Oper.wp, execOp, resolve, List.map_toArray, List.map_cons, List.map_nil, Option.map_some, Option.map_none, e0]
                go_simp
                exact hK _ _ rfl (Same.refl _ _)
              · intro ac wc hs hd hz hf hw K hK
                have e0 : ac.eval (.tmp 15) = (.bool true) := hw 1 rfl
                clear hd hz hf hw
                simp only [Region.wanted, if_true, Oper.wp, execOp, resolve, List.map_toArray, List.map_cons, List.map_nil, Option.map_some, Option.map_none, e0]
                go_simp
                exact hK _ _ rfl (Same.refl _ _)
              · intro ac wc hs hd hz hf hw K hK
                have eg : ac.eval (.tmp 16) = .bool true := hw 2 rfl
                refine run_wanted (j := 2) (d := 16) (b := true) rfl rfl hz (of_decide_eq_true rfl) eg ?_
                clear eg
                have e0 : ac.eval (.tmp 0) = (.slice (some ad) l.length cp) := hf 0 rfl
                clear hd hz hf hw
                simp only [Oper.wp, execOp, resolve, List.map_toArray, List.map_cons, List.map_nil, Option.map_some, Option.map_none, e0]
                go_simp
                exact hK _ _ rfl (Same.refl _ _)
              · intro ac wc hs hd hz hf hw K hK
                have eg : ac.eval (.tmp 16) = .bool true := hw 2 rfl
                refine run_wanted (j := 2) (d := 16) (b := true) rfl rfl hz (of_decide_eq_true rfl) eg ?_
                clear eg
                have e0 : ac.eval (.tmp 7) = (.int .i64 k) := hf 7 rfl
                clear hd hz hf hw
                simp only [Oper.wp, execOp, resolve, List.map_toArray, List.map_cons, List.map_nil, Option.map_some, Option.map_none, e0]
                go_simp
                exact hK _ _ rfl (Same.refl _ _)
              · intro ac wc hs hd hz hf hw K hK
                have eg : ac.eval (.tmp 16) = .bool true := hw 2 rfl
                refine run_wanted (j := 2) (d := 16) (b := true) rfl rfl hz (of_decide_eq_true rfl) eg ?_
                clear eg
                have e0 : ac.eval (.tmp 17) = (.slice (some ad) l.length cp) := hw 3 rfl
                have e1 : ac.eval (.tmp 18) = (.int .i64 k) := hw 4 rfl
                clear hd hz hf hw
                simp only [Oper.wp, execOp, resolve, List.map_toArray, List.map_cons, List.map_nil, Option.map_some, Option.map_none, e0, e1]
                go_simp
                exact hK _ _ rfl (Same.refl _ _)
              · intro ac wc hs hd hz hf hw K hK
                have eg : ac.eval (.tmp 16) = .bool true := hw 2 rfl
                refine run_wanted (j := 2) (d := 16) (b := true) rfl rfl hz (of_decide_eq_true rfl) eg ?_
                clear eg
                have e0 : ac.eval (.tmp 19) = (.pointer (some (ad.add (k * 4)))) := hw 5 rfl
                clear hd hz hf hw
                simp only [Oper.wp, execOp, resolve, List.map_toArray, List.map_cons, List.map_nil, Option.map_some, Option.map_none, e0]
                go_simp
                exact hK _ _ rfl (Same.refl _ _)
              · intro ac wc hs hd hz hf hw K hK
                have eg : ac.eval (.tmp 16) = .bool true := hw 2 rfl
                refine run_wanted (j := 2) (d := 16) (b := true) rfl rfl hz (of_decide_eq_true rfl) eg ?_
                clear eg
                have e0 : ac.eval (.tmp 20) = (.pointer (some (ad.add (k * 4)))) := hw 6 rfl
                have m0 : wc.cell? (ad.add (k * 4)) = some (.int .i64 x.at_.wall) := hs.cell (p := (ad.add (k * 4))) trivial d0
                have m1 : wc.cell? ⟨(ad.add (k * 4)).block, (ad.add (k * 4)).off + 1, none⟩ = some (.int .i64 x.at_.tie) := hs.cell (p := ⟨(ad.add (k * 4)).block, (ad.add (k * 4)).off + 1, none⟩) trivial d1
                clear hd hz hf hw
                simp only [Oper.wp, execOp, resolve, List.map_toArray, List.map_cons, List.map_nil, Option.map_some, Option.map_none, e0]
                go_simp
                exact hK _ _ rfl (Same.refl _ _)
              · intro ac wc hs hd hz hf hw K hK
                have eg : ac.eval (.tmp 16) = .bool true := hw 2 rfl
                refine run_wanted (j := 2) (d := 16) (b := true) rfl rfl hz (of_decide_eq_true rfl) eg ?_
                clear eg
                have e0 : ac.eval (.tmp 3) = (.pointer (some ⟨w.heap.size, 0, none⟩)) := hf 3 rfl
                clear hd hz hf hw
                simp only [Oper.wp, execOp, resolve, List.map_toArray, List.map_cons, List.map_nil, Option.map_some, Option.map_none, e0]
                go_simp
                exact hK _ _ rfl (Same.refl _ _)
              · intro ac wc hs hd hz hf hw K hK
                have eg : ac.eval (.tmp 16) = .bool true := hw 2 rfl
                refine run_wanted (j := 2) (d := 16) (b := true) rfl rfl hz (of_decide_eq_true rfl) eg ?_
                clear eg
                have e0 : ac.eval (.tmp 22) = (.pointer (some ⟨w.heap.size, 0, none⟩)) := hw 8 rfl
                have m0 : wc.cell? ⟨w.heap.size, 0, none⟩ = some (.int .i64 a.at_.wall) := hs.cell (p := ⟨w.heap.size, 0, none⟩) trivial t0
                have m1 : wc.cell? ⟨w.heap.size, 1, none⟩ = some (.int .i64 a.at_.tie) := hs.cell (p := ⟨w.heap.size, 1, none⟩) trivial t1
                clear hd hz hf hw
                simp only [Oper.wp, execOp, resolve, List.map_toArray, List.map_cons, List.map_nil, Option.map_some, Option.map_none, e0]
                go_simp
                exact hK _ _ rfl (Same.refl _ _)
              · intro ac wc hs hd hz hf hw K hK
                have eg : ac.eval (.tmp 16) = .bool true := hw 2 rfl
                refine run_wanted (j := 2) (d := 16) (b := true) rfl rfl hz (of_decide_eq_true rfl) eg ?_
                clear eg
                have e0 : ac.eval (.tmp 21) = (stV x.at_) := hw 7 rfl
                have e1 : ac.eval (.tmp 23) = (stV a.at_) := hw 9 rfl
                clear hd hz hf hw
                simp only [Oper.wp, execOp, resolve, List.map_toArray, List.map_cons, List.map_nil, Option.map_some, Option.map_none, e0, e1]
                go_simp
                refine (gl _).mono ?_
                rintro e wd ⟨rfl, hs2⟩
                exact hK _ _ rfl hs2
              · intro ac wc hs hd hz hf hw K hK
                have eg : ac.eval (.tmp 16) = .bool true := hw 2 rfl
                refine run_wanted (j := 2) (d := 16) (b := true) rfl rfl hz (of_decide_eq_true rfl) eg ?_
                clear eg
                have e0 : ac.eval (.tmp 24) = (.bool false) := hw 10 rfl
                clear hd hz hf hw
                simp only [Oper.wp, execOp, resolve, List.map_toArray, List.map_cons, List.map_nil, Option.map_some, Option.map_none, e0]
                go_simp
                exact hK _ _ rfl (Same.refl _ _)
              · intro ac wc hs hd hz hf hw K hK
                have e0 : ac.eval (.tmp 16) = (.bool true) := hw 2 rfl
                have e1 : ac.eval (.tmp 25) = (.bool true) := hw 11 rfl
                clear hd hz hf hw
                simp only [Region.wanted, if_true, Oper.wp, execOp, resolve, List.map_toArray, List.map_cons, List.map_nil, Option.map_some, Option.map_none, e0, e1]
                go_simp
                exact hK _ _ rfl (Same.refl _ _)
            · intro wR hsR
              simp only [putAll, Act.put, List.setIfInBounds_toArray, List.set_cons_succ, List.set_cons_zero]
              have hown1 := Hown.out.keepAll hsR
              have hrow1 := Hrow.out.keep hsR trivial
              have hS1 := HS.out.trans hsR
              have d0 := hsR.cell (p := ad.add (k * 4)) trivial d0
              have d1 := hsR.cell (p := ⟨(ad.add (k * 4)).block, (ad.add (k * 4)).off + 1, none⟩) trivial d1
              have d2 := hsR.cell (p := ⟨(ad.add (k * 4)).block, (ad.add (k * 4)).off + 2, none⟩) trivial d2
              have d3 := hsR.cell (p := ⟨(ad.add (k * 4)).block, (ad.add (k * 4)).off + 3, none⟩) trivial d3
              have t0 : wR.cell? ⟨w.heap.size, 0, none⟩ = some (.int .i64 a.at_.wall) := hrow1.cell 0
              have t1 : wR.cell? ⟨w.heap.size, 1, none⟩ = some (.int .i64 a.at_.tie) := hrow1.cell 1
              have t2 : wR.cell? ⟨w.heap.size, 2, none⟩ = some (.bool a.drop) := hrow1.cell 2
              have t3 : wR.cell? ⟨w.heap.size, 3, none⟩ = some (.string (str a.data)) := hrow1.cell 3
              have hsz7 : w.heap.size + 1 ≤ wR.heap.size := Nat.le_trans hsz hsR.size
              have Hown := Lib.hid hown1
              have Hrow := Lib.hid hrow1
              have HS := Lib.hid hS1
              clear hown1 hrow1 hS1 hsR
              go_wp2_with (at_builtin; refine stopAt ?_)
              unfold Hid
              refine wpList_appR1 TVer verCs_len verCs_one (w := wR) (c := a) (B := w.heap.size + 1) rfl (.tmp 27) (.tmp 29) rfl rfl rfl (by first | rfl | simp) Hown.out hsz7 (by have := Hlen0.out; simp only [maxLen]; omega) (by have := Hlen0.out; omega) ?_
              intro v6 w6 k1 k2
              obtain ⟨Al6, nl6, cl6, rfl, hl3, hl4⟩ : ∃ Aq nq cq, v6 = Value.slice Aq nq cq ∧ nq ≤ cq ∧ cq ≤ maxLen := by
                obtain ⟨Aq, cq, h1, h2, h3⟩ := k1.form
                exact ⟨Aq, _, cq, h1, h2, h3⟩
              unfold maxLen at hl4
              have hrow1 := Hrow.out.keep k2 (by omega)
              have hS1 := HS.out.trans' k2 fun q hq _ => by omega
              have d0 := k2.cell (p := ad.add (k * 4)) (by have := HSad.out; omega) d0
              have d1 := k2.cell (p := ⟨(ad.add (k * 4)).block, (ad.add (k * 4)).off + 1, none⟩) (by have := HSad.out; show (ad.add (k * 4)).block < _; omega) d1
              have d2 := k2.cell (p := ⟨(ad.add (k * 4)).block, (ad.add (k * 4)).off + 2, none⟩) (by have := HSad.out; show (ad.add (k * 4)).block < _; omega) d2
              have d3 := k2.cell (p := ⟨(ad.add (k * 4)).block, (ad.add (k * 4)).off + 3, none⟩) (by have := HSad.out; show (ad.add (k * 4)).block < _; omega) d3
              have t0 : w6.cell? ⟨w.heap.size, 0, none⟩ = some (.int .i64 a.at_.wall) := hrow1.cell 0
              have t1 : w6.cell? ⟨w.heap.size, 1, none⟩ = some (.int .i64 a.at_.tie) := hrow1.cell 1
              have hsz7 : w.heap.size + 1 ≤ w6.heap.size := Nat.le_trans hsz7 k2.size
              have hab6 := World.block_lt_of_cell? w6 _ d0
              have Hown := Lib.hid k1
              have Hrow := Lib.hid hrow1
              have HS := Lib.hid hS1
              clear k1 k2 hrow1 hS1 t2 t3
              rw [He.out] at d0 d1
              go_wp2
              go_quiet (fail)
              rename_i nq
              go_wp2
              go_roundw
              case rel =>
                have hsq := (Same.refl (fun _ => True) w6).drewN nq
                exact ⟨k + 1, true, by go_num, rfl, by omega, ⟨_, Hown.out.keepAll hsq, Heq.out, by have := Hlen.out; omega⟩, Hrow.out.keep hsq trivial, Nat.le_trans hsz7 hsq.size, HS.out.trans hsq⟩
              case measure => simp [intOf]; omega
          · have hne : ¬ x.at_ = a.at_ := fun h => hw (by rw [h])
            have heq' : (O ++ [a]) ++ [x] ++ withR a true (l.drop (k + 1)) = withR a false l := by
              rw [← heq]
              simp [withR, hlb, hne]
            have Heq := Lib.hid heq'
            have Hlen0 := Lib.hid (show O.length ≤ k + 1 from by have := hlen; simp at this; omega)
            have Hlen := Lib.hid (show (O ++ [a]).length ≤ k + (true : Bool).toNat from by have := hlen; simp at this ⊢; omega)
            have y1 : (x.at_.wall != a.at_.wall) = true := by simpa using hw
            have y2 : (x.at_.wall == a.at_.wall) = false := by simpa using hw
            clear heq heq' hlen hne hw
            rw [hlb] at gl
            clear hlb
            go_wp2
            refine wp_region_eq_lit (vs := [(.bool false), (.bool true), (.bool true), (.slice (some ad) l.length cp), (.int .i64 k), (.pointer (some (ad.add (k * 4)))), (.pointer (some (ad.add (k * 4)))), (stV x.at_), (.pointer (some ⟨w.heap.size, 0, none⟩)), (stV a.at_), (.bool false), (.bool true), (.bool true)]) (by kernel_rfl) (by kernel_rfl) rfl rfl ?_ ?_
            · refine ⟨?_, ?_, ?_, ?_, ?_, ?_, ?_, ?_, ?_, ?_, ?_, ?_, ?_, trivial⟩
              · intro ac wc hs hd hz hf hw K hK
                have e0 : ac.eval (.tmp 6) = (.bool false) := hf 6 rfl
                clear hd hz hf hw
                simp only [Region.wanted, if_true, Oper.wp, execOp, resolve, List.map_toArray, List.map_cons, List.map_nil, Option.map_some, Option.map_none, e0]
                go_simp
                exact hK _ _ rfl (Same.refl _ _)
              · intro ac wc hs hd hz hf hw K hK
                have e0 : ac.eval (.tmp 14) = (.bool false) := hw 0 rfl
                clear hd hz hf hw
                simp only [Region.wanted, if_true, Oper.wp, execOp, resolve, List.map_toArray, List.map_cons, List.map_nil, Option.map_some, Option.map_none, e0]
                go_simp
                exact hK _ _ rfl (Same.refl _ _)
              · intro ac wc hs hd hz hf hw K hK
                have e0 : ac.eval (.tmp 15) = (.bool true) := hw 1 rfl
                clear hd hz hf hw
                simp only [Region.wanted, if_true, Oper.wp, execOp, resolve, List.map_toArray, List.map_cons, List.map_nil, Option.map_some, Option.map_none, e0]
                go_simp
                exact hK _ _ rfl (Same.refl _ _)
              · intro ac wc hs hd hz hf hw K hK
                have eg : ac.eval (.tmp 16) = .bool true := hw 2 rfl
                refine run_wanted (j := 2) (d := 16) (b := true) rfl rfl hz (of_decide_eq_true rfl) eg ?_
                clear eg
                have e0 : ac.eval (.tmp 0) = (.slice (some ad) l.length cp) := hf 0 rfl
                clear hd hz hf hw
                simp only [Oper.wp, execOp, resolve, List.map_toArray, List.map_cons, List.map_nil, Option.map_some, Option.map_none, e0]
                go_simp
                exact hK _ _ rfl (Same.refl _ _)
              · intro ac wc hs hd hz hf hw K hK
                have eg : ac.eval (.tmp 16) = .bool true := hw 2 rfl
                refine run_wanted (j := 2) (d := 16) (b := true) rfl rfl hz (of_decide_eq_true rfl) eg ?_
                clear eg
                have e0 : ac.eval (.tmp 7) = (.int .i64 k) := hf 7 rfl
                clear hd hz hf hw
                simp only [Oper.wp, execOp, resolve, List.map_toArray, List.map_cons, List.map_nil, Option.map_some, Option.map_none, e0]
                go_simp
                exact hK _ _ rfl (Same.refl _ _)
              · intro ac wc hs hd hz hf hw K hK
                have eg : ac.eval (.tmp 16) = .bool true := hw 2 rfl
                refine run_wanted (j := 2) (d := 16) (b := true) rfl rfl hz (of_decide_eq_true rfl) eg ?_
                clear eg
                have e0 : ac.eval (.tmp 17) = (.slice (some ad) l.length cp) := hw 3 rfl
                have e1 : ac.eval (.tmp 18) = (.int .i64 k) := hw 4 rfl
                clear hd hz hf hw
                simp only [Oper.wp, execOp, resolve, List.map_toArray, List.map_cons, List.map_nil, Option.map_some, Option.map_none, e0, e1]
                go_simp
                exact hK _ _ rfl (Same.refl _ _)
              · intro ac wc hs hd hz hf hw K hK
                have eg : ac.eval (.tmp 16) = .bool true := hw 2 rfl
                refine run_wanted (j := 2) (d := 16) (b := true) rfl rfl hz (of_decide_eq_true rfl) eg ?_
                clear eg
                have e0 : ac.eval (.tmp 19) = (.pointer (some (ad.add (k * 4)))) := hw 5 rfl
                clear hd hz hf hw
                simp only [Oper.wp, execOp, resolve, List.map_toArray, List.map_cons, List.map_nil, Option.map_some, Option.map_none, e0]
                go_simp
                exact hK _ _ rfl (Same.refl _ _)
              · intro ac wc hs hd hz hf hw K hK
                have eg : ac.eval (.tmp 16) = .bool true := hw 2 rfl
                refine run_wanted (j := 2) (d := 16) (b := true) rfl rfl hz (of_decide_eq_true rfl) eg ?_
                clear eg
                have e0 : ac.eval (.tmp 20) = (.pointer (some (ad.add (k * 4)))) := hw 6 rfl
                have m0 : wc.cell? (ad.add (k * 4)) = some (.int .i64 x.at_.wall) := hs.cell (p := (ad.add (k * 4))) trivial d0
                have m1 : wc.cell? ⟨(ad.add (k * 4)).block, (ad.add (k * 4)).off + 1, none⟩ = some (.int .i64 x.at_.tie) := hs.cell (p := ⟨(ad.add (k * 4)).block, (ad.add (k * 4)).off + 1, none⟩) trivial d1
                clear hd hz hf hw
                simp only [Oper.wp, execOp, resolve, List.map_toArray, List.map_cons, List.map_nil, Option.map_some, Option.map_none, e0]
                go_simp
                exact hK _ _ rfl (Same.refl _ _)
              · intro ac wc hs hd hz hf hw K hK
                have eg : ac.eval (.tmp 16) = .bool true := hw 2 rfl
                refine run_wanted (j := 2) (d := 16) (b := true) rfl rfl hz (of_decide_eq_true rfl) eg ?_
                clear eg
                have e0 : ac.eval (.tmp 3) = (.pointer (some ⟨w.heap.size, 0, none⟩)) := hf 3 rfl
                clear hd hz hf hw
                simp only [Oper.wp, execOp, resolve, List.map_toArray, List.map_cons, List.map_nil, Option.map_some, Option.map_none, e0]
                go_simp
                exact hK _ _ rfl (Same.refl _ _)
              · intro ac wc hs hd hz hf hw K hK
                have eg : ac.eval (.tmp 16) = .bool true := hw 2 rfl
                refine run_wanted (j := 2) (d := 16) (b := true) rfl rfl hz (of_decide_eq_true rfl) eg ?_
                clear eg
                have e0 : ac.eval (.tmp 22) = (.pointer (some ⟨w.heap.size, 0, none⟩)) := hw 8 rfl
                have m0 : wc.cell? ⟨w.heap.size, 0, none⟩ = some (.int .i64 a.at_.wall) := hs.cell (p := ⟨w.heap.size, 0, none⟩) trivial t0
                have m1 : wc.cell? ⟨w.heap.size, 1, none⟩ = some (.int .i64 a.at_.tie) := hs.cell (p := ⟨w.heap.size, 1, none⟩) trivial t1
                clear hd hz hf hw
                simp only [Oper.wp, execOp, resolve, List.map_toArray, List.map_cons, List.map_nil, Option.map_some, Option.map_none, e0]
                go_simp
                exact hK _ _ rfl (Same.refl _ _)
              · intro ac wc hs hd hz hf hw K hK
                have eg : ac.eval (.tmp 16) = .bool true := hw 2 rfl
                refine run_wanted (j := 2) (d := 16) (b := true) rfl rfl hz (of_decide_eq_true rfl) eg ?_
                clear eg
                have e0 : ac.eval (.tmp 21) = (stV x.at_) := hw 7 rfl
                have e1 : ac.eval (.tmp 23) = (stV a.at_) := hw 9 rfl
                clear hd hz hf hw
                simp only [Oper.wp, execOp, resolve, List.map_toArray, List.map_cons, List.map_nil, Option.map_some, Option.map_none, e0, e1]
                go_simp
                refine (gl _).mono ?_
                rintro e wd ⟨rfl, hs2⟩
                exact hK _ _ rfl hs2
              · intro ac wc hs hd hz hf hw K hK
                have eg : ac.eval (.tmp 16) = .bool true := hw 2 rfl
                refine run_wanted (j := 2) (d := 16) (b := true) rfl rfl hz (of_decide_eq_true rfl) eg ?_
                clear eg
                have e0 : ac.eval (.tmp 24) = (.bool false) := hw 10 rfl
                clear hd hz hf hw
                simp only [Oper.wp, execOp, resolve, List.map_toArray, List.map_cons, List.map_nil, Option.map_some, Option.map_none, e0]
                go_simp
                exact hK _ _ rfl (Same.refl _ _)
              · intro ac wc hs hd hz hf hw K hK
                have e0 : ac.eval (.tmp 16) = (.bool true) := hw 2 rfl
                have e1 : ac.eval (.tmp 25) = (.bool true) := hw 11 rfl
                clear hd hz hf hw
                simp only [Region.wanted, if_true, Oper.wp, execOp, resolve, List.map_toArray, List.map_cons, List.map_nil, Option.map_some, Option.map_none, e0, e1]
                go_simp
                exact hK _ _ rfl (Same.refl _ _)
            · intro wR hsR
              simp only [putAll, Act.put, List.setIfInBounds_toArray, List.set_cons_succ, List.set_cons_zero]
              have hown1 := Hown.out.keepAll hsR
              have hrow1 := Hrow.out.keep hsR trivial
              have hS1 := HS.out.trans hsR
              have d0 := hsR.cell (p := ad.add (k * 4)) trivial d0
              have d1 := hsR.cell (p := ⟨(ad.add (k * 4)).block, (ad.add (k * 4)).off + 1, none⟩) trivial d1
              have d2 := hsR.cell (p := ⟨(ad.add (k * 4)).block, (ad.add (k * 4)).off + 2, none⟩) trivial d2
              have d3 := hsR.cell (p := ⟨(ad.add (k * 4)).block, (ad.add (k * 4)).off + 3, none⟩) trivial d3
              have t0 : wR.cell? ⟨w.heap.size, 0, none⟩ = some (.int .i64 a.at_.wall) := hrow1.cell 0
              have t1 : wR.cell? ⟨w.heap.size, 1, none⟩ = some (.int .i64 a.at_.tie) := hrow1.cell 1
              have t2 : wR.cell? ⟨w.heap.size, 2, none⟩ = some (.bool a.drop) := hrow1.cell 2
              have t3 : wR.cell? ⟨w.heap.size, 3, none⟩ = some (.string (str a.data)) := hrow1.cell 3
              have hsz7 : w.heap.size + 1 ≤ wR.heap.size := Nat.le_trans hsz hsR.size
              have Hown := Lib.hid hown1
              have Hrow := Lib.hid hrow1
              have HS := Lib.hid hS1
              clear hown1 hrow1 hS1 hsR
              go_wp2_with (at_builtin; refine stopAt ?_)
              unfold Hid
              refine wpList_appR1 TVer verCs_len verCs_one (w := wR) (c := a) (B := w.heap.size + 1) rfl (.tmp 27) (.tmp 29) rfl rfl rfl (by first | rfl | simp) Hown.out hsz7 (by have := Hlen0.out; simp only [maxLen]; omega) (by have := Hlen0.out; omega) ?_
              intro v6 w6 k1 k2
              obtain ⟨Al6, nl6, cl6, rfl, hl3, hl4⟩ : ∃ Aq nq cq, v6 = Value.slice Aq nq cq ∧ nq ≤ cq ∧ cq ≤ maxLen := by
                obtain ⟨Aq, cq, h1, h2, h3⟩ := k1.form
                exact ⟨Aq, _, cq, h1, h2, h3⟩
              unfold maxLen at hl4
              have hrow1 := Hrow.out.keep k2 (by omega)
              have hS1 := HS.out.trans' k2 fun q hq _ => by omega
              have d0 := k2.cell (p := ad.add (k * 4)) (by have := HSad.out; omega) d0
              have d1 := k2.cell (p := ⟨(ad.add (k * 4)).block, (ad.add (k * 4)).off + 1, none⟩) (by have := HSad.out; show (ad.add (k * 4)).block < _; omega) d1
              have d2 := k2.cell (p := ⟨(ad.add (k * 4)).block, (ad.add (k * 4)).off + 2, none⟩) (by have := HSad.out; show (ad.add (k * 4)).block < _; omega) d2
              have d3 := k2.cell (p := ⟨(ad.add (k * 4)).block, (ad.add (k * 4)).off + 3, none⟩) (by have := HSad.out; show (ad.add (k * 4)).block < _; omega) d3
              have t0 : w6.cell? ⟨w.heap.size, 0, none⟩ = some (.int .i64 a.at_.wall) := hrow1.cell 0
              have t1 : w6.cell? ⟨w.heap.size, 1, none⟩ = some (.int .i64 a.at_.tie) := hrow1.cell 1
              have hsz7 : w.heap.size + 1 ≤ w6.heap.size := Nat.le_trans hsz7 k2.size
              have hab6 := World.block_lt_of_cell? w6 _ d0
              have Hown := Lib.hid k1
              have Hrow := Lib.hid hrow1
              have HS := Lib.hid hS1
              clear k1 k2 hrow1 hS1 t2 t3
              go_wp2
              go_quiet (fail)
              rename_i nq
              go_wp2_with (at_builtin; refine stopAt ?_)
              unfold Hid
              have hsq := (Same.refl (fun _ => True) w6).drewN nq
              refine wpList_appR1 TVer verCs_len verCs_one (w := w6.drewN nq) (c := x) (B := w.heap.size + 1) rfl (.tmp 39) (.tmp 44) rfl rfl rfl (by first | rfl | simp) (Hown.out.keepAll hsq) (Nat.le_trans hsz7 hsq.size) (by have := Hlen.out; simp at this; simp only [maxLen]; first | omega | (simp; omega)) (by have := Hlen.out; simp at this; first | omega | (simp; omega)) ?_
              intro v9 w9 k1 k2
              have K1 := Lib.hid k1
              have K2 := Lib.hid k2
              have Hsq := Lib.hid hsq
              clear k1 k2 hsq
              go_wp2
              go_roundw
              case rel =>
                have hs9 : Same (fun q => q < w.heap.size + 1) w6 w9 := (Hsq.out.mono fun _ _ _ => trivial).trans K2.out
                exact ⟨k + 1, true, by go_num, rfl, by omega, ⟨_, K1.out, Heq.out, by have := Hlen.out; simp only [List.length_append, List.length_singleton] at this ⊢; omega⟩, Hrow.out.keep hs9 (by omega), Nat.le_trans hsz7 hs9.size, HS.out.trans' hs9 fun q hq _ => by omega⟩
              case measure => simp [intOf]; omega
          · have hne : ¬ x.at_ = a.at_ := fun h => ht (by rw [h])
            have heq' : (O ++ [a]) ++ [x] ++ withR a true (l.drop (k + 1)) = withR a false l := by
              rw [← heq]
              simp [withR, hlb, hne]
            have Heq := Lib.hid heq'
            have Hlen0 := Lib.hid (show O.length ≤ k + 1 from by have := hlen; simp at this; omega)
            have Hlen := Lib.hid (show (O ++ [a]).length ≤ k + (true : Bool).toNat from by have := hlen; simp at this ⊢; omega)
            have y1 : (x.at_.tie != a.at_.tie) = true := by simpa using ht
            have y2 : (x.at_.tie == a.at_.tie) = false := by simpa using ht
            have Hw := Lib.hid hw
            clear heq heq' hlen hne ht hw
            rw [hlb] at gl
            clear hlb
            go_wp2
            refine wp_region_eq_lit (vs := [(.bool false), (.bool true), (.bool true), (.slice (some ad) l.length cp), (.int .i64 k), (.pointer (some (ad.add (k * 4)))), (.pointer (some (ad.add (k * 4)))), (stV x.at_), (.pointer (some ⟨w.heap.size, 0, none⟩)), (stV a.at_), (.bool false), (.bool true), (.bool true)]) (by kernel_rfl) (by kernel_rfl) rfl rfl ?_ ?_
            · refine ⟨?_, ?_, ?_, ?_, ?_, ?_, ?_, ?_, ?_, ?_, ?_, ?_, ?_, trivial⟩
              · intro ac wc hs hd hz hf hw K hK
                have e0 : ac.eval (.tmp 6) = (.bool false) := hf 6 rfl
                clear hd hz hf hw
                simp only [Region.wanted, if_true, Oper.wp, execOp, resolve, List.map_toArray, List.map_cons, List.map_nil, Option.map_some, Option.map_none, e0]
                go_simp
                exact hK _ _ rfl (Same.refl _ _)
              · intro ac wc hs hd hz hf hw K hK
                have e0 : ac.eval (.tmp 14) = (.bool false) := hw 0 rfl
                clear hd hz hf hw
                simp only [Region.wanted, if_true, Oper.wp, execOp, resolve, List.map_toArray, List.map_cons, List.map_nil, Option.map_some, Option.map_none, e0]
                go_simp
                exact hK _ _ rfl (Same.refl _ _)
              · intro ac wc hs hd hz hf hw K hK
                have e0 : ac.eval (.tmp 15) = (.bool true) := hw 1 rfl
                clear hd hz hf hw
                simp only [Region.wanted, if_true, Oper.wp, execOp, resolve, List.map_toArray, List.map_cons, List.map_nil, Option.map_some, Option.map_none, e0]
                go_simp
                exact hK _ _ rfl (Same.refl _ _)
              · intro ac wc hs hd hz hf hw K hK
                have eg : ac.eval (.tmp 16) = .bool true := hw 2 rfl
                refine run_wanted (j := 2) (d := 16) (b := true) rfl rfl hz (of_decide_eq_true rfl) eg ?_
                clear eg
                have e0 : ac.eval (.tmp 0) = (.slice (some ad) l.length cp) := hf 0 rfl
                clear hd hz hf hw
                simp only [Oper.wp, execOp, resolve, List.map_toArray, List.map_cons, List.map_nil, Option.map_some, Option.map_none, e0]
                go_simp
                exact hK _ _ rfl (Same.refl _ _)
              · intro ac wc hs hd hz hf hw K hK
                have eg : ac.eval (.tmp 16) = .bool true := hw 2 rfl
                refine run_wanted (j := 2) (d := 16) (b := true) rfl rfl hz (of_decide_eq_true rfl) eg ?_
                clear eg
                have e0 : ac.eval (.tmp 7) = (.int .i64 k) := hf 7 rfl
                clear hd hz hf hw
                simp only [Oper.wp, execOp, resolve, List.map_toArray, List.map_cons, List.map_nil, Option.map_some, Option.map_none, e0]
                go_simp
                exact hK _ _ rfl (Same.refl _ _)
              · intro ac wc hs hd hz hf hw K hK
                have eg : ac.eval (.tmp 16) = .bool true := hw 2 rfl
                refine run_wanted (j := 2) (d := 16) (b := true) rfl rfl hz (of_decide_eq_true rfl) eg ?_
                clear eg
                have e0 : ac.eval (.tmp 17) = (.slice (some ad) l.length cp) := hw 3 rfl
                have e1 : ac.eval (.tmp 18) = (.int .i64 k) := hw 4 rfl
                clear hd hz hf hw
                simp only [Oper.wp, execOp, resolve, List.map_toArray, List.map_cons, List.map_nil, Option.map_some, Option.map_none, e0, e1]
                go_simp
                exact hK _ _ rfl (Same.refl _ _)
              · intro ac wc hs hd hz hf hw K hK
                have eg : ac.eval (.tmp 16) = .bool true := hw 2 rfl
                refine run_wanted (j := 2) (d := 16) (b := true) rfl rfl hz (of_decide_eq_true rfl) eg ?_
                clear eg
                have e0 : ac.eval (.tmp 19) = (.pointer (some (ad.add (k * 4)))) := hw 5 rfl
                clear hd hz hf hw
                simp only [Oper.wp, execOp, resolve, List.map_toArray, List.map_cons, List.map_nil, Option.map_some, Option.map_none, e0]
                go_simp
                exact hK _ _ rfl (Same.refl _ _)
              · intro ac wc hs hd hz hf hw K hK
                have eg : ac.eval (.tmp 16) = .bool true := hw 2 rfl
                refine run_wanted (j := 2) (d := 16) (b := true) rfl rfl hz (of_decide_eq_true rfl) eg ?_
                clear eg
                have e0 : ac.eval (.tmp 20) = (.pointer (some (ad.add (k * 4)))) := hw 6 rfl
                have m0 : wc.cell? (ad.add (k * 4)) = some (.int .i64 x.at_.wall) := hs.cell (p := (ad.add (k * 4))) trivial d0
                have m1 : wc.cell? ⟨(ad.add (k * 4)).block, (ad.add (k * 4)).off + 1, none⟩ = some (.int .i64 x.at_.tie) := hs.cell (p := ⟨(ad.add (k * 4)).block, (ad.add (k * 4)).off + 1, none⟩) trivial d1
                clear hd hz hf hw
                simp only [Oper.wp, execOp, resolve, List.map_toArray, List.map_cons, List.map_nil, Option.map_some, Option.map_none, e0]
                go_simp
                exact hK _ _ rfl (Same.refl _ _)
              · intro ac wc hs hd hz hf hw K hK
                have eg : ac.eval (.tmp 16) = .bool true := hw 2 rfl
                refine run_wanted (j := 2) (d := 16) (b := true) rfl rfl hz (of_decide_eq_true rfl) eg ?_
                clear eg
                have e0 : ac.eval (.tmp 3) = (.pointer (some ⟨w.heap.size, 0, none⟩)) := hf 3 rfl
                clear hd hz hf hw
                simp only [Oper.wp, execOp, resolve, List.map_toArray, List.map_cons, List.map_nil, Option.map_some, Option.map_none, e0]
                go_simp
                exact hK _ _ rfl (Same.refl _ _)
              · intro ac wc hs hd hz hf hw K hK
                have eg : ac.eval (.tmp 16) = .bool true := hw 2 rfl
                refine run_wanted (j := 2) (d := 16) (b := true) rfl rfl hz (of_decide_eq_true rfl) eg ?_
                clear eg
                have e0 : ac.eval (.tmp 22) = (.pointer (some ⟨w.heap.size, 0, none⟩)) := hw 8 rfl
                have m0 : wc.cell? ⟨w.heap.size, 0, none⟩ = some (.int .i64 a.at_.wall) := hs.cell (p := ⟨w.heap.size, 0, none⟩) trivial t0
                have m1 : wc.cell? ⟨w.heap.size, 1, none⟩ = some (.int .i64 a.at_.tie) := hs.cell (p := ⟨w.heap.size, 1, none⟩) trivial t1
                clear hd hz hf hw
                simp only [Oper.wp, execOp, resolve, List.map_toArray, List.map_cons, List.map_nil, Option.map_some, Option.map_none, e0]
                go_simp
                exact hK _ _ rfl (Same.refl _ _)
              · intro ac wc hs hd hz hf hw K hK
                have eg : ac.eval (.tmp 16) = .bool true := hw 2 rfl
                refine run_wanted (j := 2) (d := 16) (b := true) rfl rfl hz (of_decide_eq_true rfl) eg ?_
                clear eg
                have e0 : ac.eval (.tmp 21) = (stV x.at_) := hw 7 rfl
                have e1 : ac.eval (.tmp 23) = (stV a.at_) := hw 9 rfl
                clear hd hz hf hw
                simp only [Oper.wp, execOp, resolve, List.map_toArray, List.map_cons, List.map_nil, Option.map_some, Option.map_none, e0, e1]
                go_simp
                refine (gl _).mono ?_
                rintro e wd ⟨rfl, hs2⟩
                exact hK _ _ rfl hs2
              · intro ac wc hs hd hz hf hw K hK
                have eg : ac.eval (.tmp 16) = .bool true := hw 2 rfl
                refine run_wanted (j := 2) (d := 16) (b := true) rfl rfl hz (of_decide_eq_true rfl) eg ?_
                clear eg
                have e0 : ac.eval (.tmp 24) = (.bool false) := hw 10 rfl
                clear hd hz hf hw
                simp only [Oper.wp, execOp, resolve, List.map_toArray, List.map_cons, List.map_nil, Option.map_some, Option.map_none, e0]
                go_simp
                exact hK _ _ rfl (Same.refl _ _)
              · intro ac wc hs hd hz hf hw K hK
                have e0 : ac.eval (.tmp 16) = (.bool true) := hw 2 rfl
                have e1 : ac.eval (.tmp 25) = (.bool true) := hw 11 rfl
                clear hd hz hf hw
                simp only [Region.wanted, if_true, Oper.wp, execOp, resolve, List.map_toArray, List.map_cons, List.map_nil, Option.map_some, Option.map_none, e0, e1]
                go_simp
                exact hK _ _ rfl (Same.refl _ _)
            · intro wR hsR
              simp only [putAll, Act.put, List.setIfInBounds_toArray, List.set_cons_succ, List.set_cons_zero]
              have hown1 := Hown.out.keepAll hsR
              have hrow1 := Hrow.out.keep hsR trivial
              have hS1 := HS.out.trans hsR
              have d0 := hsR.cell (p := ad.add (k * 4)) trivial d0
              have d1 := hsR.cell (p := ⟨(ad.add (k * 4)).block, (ad.add (k * 4)).off + 1, none⟩) trivial d1
              have d2 := hsR.cell (p := ⟨(ad.add (k * 4)).block, (ad.add (k * 4)).off + 2, none⟩) trivial d2
              have d3 := hsR.cell (p := ⟨(ad.add (k * 4)).block, (ad.add (k * 4)).off + 3, none⟩) trivial d3
              have t0 : wR.cell? ⟨w.heap.size, 0, none⟩ = some (.int .i64 a.at_.wall) := hrow1.cell 0
              have t1 : wR.cell? ⟨w.heap.size, 1, none⟩ = some (.int .i64 a.at_.tie) := hrow1.cell 1
              have t2 : wR.cell? ⟨w.heap.size, 2, none⟩ = some (.bool a.drop) := hrow1.cell 2
              have t3 : wR.cell? ⟨w.heap.size, 3, none⟩ = some (.string (str a.data)) := hrow1.cell 3
              have hsz7 : w.heap.size + 1 ≤ wR.heap.size := Nat.le_trans hsz hsR.size
              have Hown := Lib.hid hown1
              have Hrow := Lib.hid hrow1
              have HS := Lib.hid hS1
              clear hown1 hrow1 hS1 hsR
              go_wp2_with (at_builtin; refine stopAt ?_)
              unfold Hid
              refine wpList_appR1 TVer verCs_len verCs_one (w := wR) (c := a) (B := w.heap.size + 1) rfl (.tmp 27) (.tmp 29) rfl rfl rfl (by first | rfl | simp) Hown.out hsz7 (by have := Hlen0.out; simp only [maxLen]; omega) (by have := Hlen0.out; omega) ?_
              intro v6 w6 k1 k2
              obtain ⟨Al6, nl6, cl6, rfl, hl3, hl4⟩ : ∃ Aq nq cq, v6 = Value.slice Aq nq cq ∧ nq ≤ cq ∧ cq ≤ maxLen := by
                obtain ⟨Aq, cq, h1, h2, h3⟩ := k1.form
                exact ⟨Aq, _, cq, h1, h2, h3⟩
              unfold maxLen at hl4
              have hrow1 := Hrow.out.keep k2 (by omega)
              have hS1 := HS.out.trans' k2 fun q hq _ => by omega
              have d0 := k2.cell (p := ad.add (k * 4)) (by have := HSad.out; omega) d0
              have d1 := k2.cell (p := ⟨(ad.add (k * 4)).block, (ad.add (k * 4)).off + 1, none⟩) (by have := HSad.out; show (ad.add (k * 4)).block < _; omega) d1
              have d2 := k2.cell (p := ⟨(ad.add (k * 4)).block, (ad.add (k * 4)).off + 2, none⟩) (by have := HSad.out; show (ad.add (k * 4)).block < _; omega) d2
              have d3 := k2.cell (p := ⟨(ad.add (k * 4)).block, (ad.add (k * 4)).off + 3, none⟩) (by have := HSad.out; show (ad.add (k * 4)).block < _; omega) d3
              have t0 : w6.cell? ⟨w.heap.size, 0, none⟩ = some (.int .i64 a.at_.wall) := hrow1.cell 0
              have t1 : w6.cell? ⟨w.heap.size, 1, none⟩ = some (.int .i64 a.at_.tie) := hrow1.cell 1
              have hsz7 : w.heap.size + 1 ≤ w6.heap.size := Nat.le_trans hsz7 k2.size
              have hab6 := World.block_lt_of_cell? w6 _ d0
              have Hown := Lib.hid k1
              have Hrow := Lib.hid hrow1
              have HS := Lib.hid hS1
              clear k1 k2 hrow1 hS1 t2 t3
              rw [Hw.out] at d0
              go_wp2
              go_quiet (fail)
              rename_i nq
              go_wp2_with (at_builtin; refine stopAt ?_)
              unfold Hid
              have hsq := (Same.refl (fun _ => True) w6).drewN nq
              refine wpList_appR1 TVer verCs_len verCs_one (w := w6.drewN nq) (c := ⟨⟨a.at_.wall, x.at_.tie⟩, x.drop, x.data⟩) (B := w.heap.size + 1) rfl (.tmp 39) (.tmp 44) rfl rfl rfl (by first | rfl | simp) (Hown.out.keepAll hsq) (Nat.le_trans hsz7 hsq.size) (by have := Hlen.out; simp at this; simp only [maxLen]; first | omega | (simp; omega)) (by have := Hlen.out; simp at this; first | omega | (simp; omega)) ?_
              intro v9 w9 k1 k2
              rw [show (⟨⟨a.at_.wall, x.at_.tie⟩, x.drop, x.data⟩ : Ver) = x from by rw [← Hw.out]] at k1
              have K1 := Lib.hid k1
              have K2 := Lib.hid k2
              have Hsq := Lib.hid hsq
              clear k1 k2 hsq
              go_wp2
              go_roundw
              case rel =>
                have hs9 : Same (fun q => q < w.heap.size + 1) w6 w9 := (Hsq.out.mono fun _ _ _ => trivial).trans K2.out
                exact ⟨k + 1, true, by go_num, rfl, by omega, ⟨_, K1.out, Heq.out, by have := Hlen.out; simp only [List.length_append, List.length_singleton] at this ⊢; omega⟩, Hrow.out.keep hs9 (by omega), Nat.le_trans hsz7 hs9.size, HS.out.trans' hs9 fun q hq _ => by omega⟩
              case measure => simp [intOf]; omega
        · rcases hkd with ⟨-, he⟩ | ⟨-, hw⟩ | ⟨-, hw, ht⟩
          · rw [he, less_irrefl] at hlb
            cases hlb
          · have hne : ¬ x.at_ = a.at_ := fun h => hw (by rw [h])
            have heq' : O ++ [x] ++ withR a false (l.drop (k + 1)) = withR a false l := by
              rw [← heq]
              simp [withR, hlb, hne]
            have Heq := Lib.hid heq'
            have Hlen0 := Lib.hid (show O.length ≤ k + 1 from by have := hlen; simp at this; omega)
            have Hlen := Lib.hid (show O.length ≤ k + (false : Bool).toNat from by have := hlen; simp at this ⊢; omega)
            have y1 : (x.at_.wall != a.at_.wall) = true := by simpa using hw
            have y2 : (x.at_.wall == a.at_.wall) = false := by simpa using hw
            clear heq heq' hlen hne hw
            rw [hlb] at gl
            clear hlb
            go_wp2
            refine wp_region_eq_lit (vs := [(.bool false), (.bool true), (.bool true), (.slice (some ad) l.length cp), (.int .i64 k), (.pointer (some (ad.add (k * 4)))), (.pointer (some (ad.add (k * 4)))), (stV x.at_), (.pointer (some ⟨w.heap.size, 0, none⟩)), (stV a.at_), (.bool true), (.bool false), (.bool false)]) (by kernel_rfl) (by kernel_rfl) rfl rfl ?_ ?_
            · refine ⟨?_, ?_, ?_, ?_, ?_, ?_, ?_, ?_, ?_, ?_, ?_, ?_, ?_, trivial⟩
              · intro ac wc hs hd hz hf hw K hK
                have e0 : ac.eval (.tmp 6) = (.bool false) := hf 6 rfl
                clear hd hz hf hw
                simp only [Region.wanted, if_true, Oper.wp, execOp, resolve, List.map_toArray, List.map_cons, List.map_nil, Option.map_some, Option.map_none, e0]
                go_simp
                exact hK _ _ rfl (Same.refl _ _)
              · intro ac wc hs hd hz hf hw K hK
                have e0 : ac.eval (.tmp 14) = (.bool false) := hw 0 rfl
                clear hd hz hf hw
                simp only [Region.wanted, if_true, Oper.wp, execOp, resolve, List.map_toArray, List.map_cons, List.map_nil, Option.map_some, Option.map_none, e0]
                go_simp
                exact hK _ _ rfl (Same.refl _ _)
              · intro ac wc hs hd hz hf hw K hK
                have e0 : ac.eval (.tmp 15) = (.bool true) := hw 1 rfl
                clear hd hz hf hw
                simp only [Region.wanted, if_true, Oper.wp, execOp, resolve, List.map_toArray, List.map_cons, List.map_nil, Option.map_some, Option.map_none, e0]
                go_simp
                exact hK _ _ rfl (Same.refl _ _)
              · intro ac wc hs hd hz hf hw K hK
                have eg : ac.eval (.tmp 16) = .bool true := hw 2 rfl
                refine run_wanted (j := 2) (d := 16) (b := true) rfl rfl hz (of_decide_eq_true rfl) eg ?_
                clear eg
                have e0 : ac.eval (.tmp 0) = (.slice (some ad) l.length cp) := hf 0 rfl
                clear hd hz hf hw
                simp only [Oper.wp, execOp, resolve, List.map_toArray, List.map_cons, List.map_nil, Option.map_some, Option.map_none, e0]
                go_simp
                exact hK _ _ rfl (Same.refl _ _)
              · intro ac wc hs hd hz hf hw K hK
                have eg : ac.eval (.tmp 16) = .bool true := hw 2 rfl
                refine run_wanted (j := 2) (d := 16) (b := true) rfl rfl hz (of_decide_eq_true rfl) eg ?_
                clear eg
                have e0 : ac.eval (.tmp 7) = (.int .i64 k) := hf 7 rfl
                clear hd hz hf hw
                simp only [Oper.wp, execOp, resolve, List.map_toArray, List.map_cons, List.map_nil, Option.map_some, Option.map_none, e0]
                go_simp
                exact hK _ _ rfl (Same.refl _ _)
              · intro ac wc hs hd hz hf hw K hK
                have eg : ac.eval (.tmp 16) = .bool true := hw 2 rfl
                refine run_wanted (j := 2) (d := 16) (b := true) rfl rfl hz (of_decide_eq_true rfl) eg ?_
                clear eg
                have e0 : ac.eval (.tmp 17) = (.slice (some ad) l.length cp) := hw 3 rfl
                have e1 : ac.eval (.tmp 18) = (.int .i64 k) := hw 4 rfl
                clear hd hz hf hw
                simp only [Oper.wp, execOp, resolve, List.map_toArray, List.map_cons, List.map_nil, Option.map_some, Option.map_none, e0, e1]
                go_simp
                exact hK _ _ rfl (Same.refl _ _)
              · intro ac wc hs hd hz hf hw K hK
                have eg : ac.eval (.tmp 16) = .bool true := hw 2 rfl
                refine run_wanted (j := 2) (d := 16) (b := true) rfl rfl hz (of_decide_eq_true rfl) eg ?_
                clear eg
                have e0 : ac.eval (.tmp 19) = (.pointer (some (ad.add (k * 4)))) := hw 5 rfl
                clear hd hz hf hw
                simp only [Oper.wp, execOp, resolve, List.map_toArray, List.map_cons, List.map_nil, Option.map_some, Option.map_none, e0]
                go_simp
                exact hK _ _ rfl (Same.refl _ _)
              · intro ac wc hs hd hz hf hw K hK
                have eg : ac.eval (.tmp 16) = .bool true := hw 2 rfl
                refine run_wanted (j := 2) (d := 16) (b := true) rfl rfl hz (of_decide_eq_true rfl) eg ?_
                clear eg
                have e0 : ac.eval (.tmp 20) = (.pointer (some (ad.add (k * 4)))) := hw 6 rfl
                have m0 : wc.cell? (ad.add (k * 4)) = some (.int .i64 x.at_.wall) := hs.cell (p := (ad.add (k * 4))) trivial d0
                have m1 : wc.cell? ⟨(ad.add (k * 4)).block, (ad.add (k * 4)).off + 1, none⟩ = some (.int .i64 x.at_.tie) := hs.cell (p := ⟨(ad.add (k * 4)).block, (ad.add (k * 4)).off + 1, none⟩) trivial d1
                clear hd hz hf hw
                simp only [Oper.wp, execOp, resolve, List.map_toArray, List.map_cons, List.map_nil, Option.map_some, Option.map_none, e0]
                go_simp
                exact hK _ _ rfl (Same.refl _ _)
              · intro ac wc hs hd hz hf hw K hK
                have eg : ac.eval (.tmp 16) = .bool true := hw 2 rfl
                refine run_wanted (j := 2) (d := 16) (b := true) rfl rfl hz (of_decide_eq_true rfl) eg ?_
                clear eg
                have e0 : ac.eval (.tmp 3) = (.pointer (some ⟨w.heap.size, 0, none⟩)) := hf 3 rfl
                clear hd hz hf hw
                simp only [Oper.wp, execOp, resolve, List.map_toArray, List.map_cons, List.map_nil, Option.map_some, Option.map_none, e0]
                go_simp
                exact hK _ _ rfl (Same.refl _ _)
              · intro ac wc hs hd hz hf hw K hK
                have eg : ac.eval (.tmp 16) = .bool true := hw 2 rfl
                refine run_wanted (j := 2) (d := 16) (b := true) rfl rfl hz (of_decide_eq_true rfl) eg ?_
                clear eg
                have e0 : ac.eval (.tmp 22) = (.pointer (some ⟨w.heap.size, 0, none⟩)) := hw 8 rfl
                have m0 : wc.cell? ⟨w.heap.size, 0, none⟩ = some (.int .i64 a.at_.wall) := hs.cell (p := ⟨w.heap.size, 0, none⟩) trivial t0
                have m1 : wc.cell? ⟨w.heap.size, 1, none⟩ = some (.int .i64 a.at_.tie) := hs.cell (p := ⟨w.heap.size, 1, none⟩) trivial t1
                clear hd hz hf hw
                simp only [Oper.wp, execOp, resolve, List.map_toArray, List.map_cons, List.map_nil, Option.map_some, Option.map_none, e0]
                go_simp
                exact hK _ _ rfl (Same.refl _ _)
              · intro ac wc hs hd hz hf hw K hK
                have eg : ac.eval (.tmp 16) = .bool true := hw 2 rfl
                refine run_wanted (j := 2) (d := 16) (b := true) rfl rfl hz (of_decide_eq_true rfl) eg ?_
                clear eg
                have e0 : ac.eval (.tmp 21) = (stV x.at_) := hw 7 rfl
                have e1 : ac.eval (.tmp 23) = (stV a.at_) := hw 9 rfl
                clear hd hz hf hw
                simp only [Oper.wp, execOp, resolve, List.map_toArray, List.map_cons, List.map_nil, Option.map_some, Option.map_none, e0, e1]
                go_simp
                refine (gl _).mono ?_
                rintro e wd ⟨rfl, hs2⟩
                exact hK _ _ rfl hs2
              · intro ac wc hs hd hz hf hw K hK
                have eg : ac.eval (.tmp 16) = .bool true := hw 2 rfl
                refine run_wanted (j := 2) (d := 16) (b := true) rfl rfl hz (of_decide_eq_true rfl) eg ?_
                clear eg
                have e0 : ac.eval (.tmp 24) = (.bool true) := hw 10 rfl
                clear hd hz hf hw
                simp only [Oper.wp, execOp, resolve, List.map_toArray, List.map_cons, List.map_nil, Option.map_some, Option.map_none, e0]
                go_simp
                exact hK _ _ rfl (Same.refl _ _)
              · intro ac wc hs hd hz hf hw K hK
                have e0 : ac.eval (.tmp 16) = (.bool true) := hw 2 rfl
                have e1 : ac.eval (.tmp 25) = (.bool false) := hw 11 rfl
                clear hd hz hf hw
                simp only [Region.wanted, if_true, Oper.wp, execOp, resolve, List.map_toArray, List.map_cons, List.map_nil, Option.map_some, Option.map_none, e0, e1]
                go_simp
                exact hK _ _ rfl (Same.refl _ _)
            · intro wR hsR
              simp only [putAll, Act.put, List.setIfInBounds_toArray, List.set_cons_succ, List.set_cons_zero]
              have hown1 := Hown.out.keepAll hsR
              have hrow1 := Hrow.out.keep hsR trivial
              have hS1 := HS.out.trans hsR
              have d0 := hsR.cell (p := ad.add (k * 4)) trivial d0
              have d1 := hsR.cell (p := ⟨(ad.add (k * 4)).block, (ad.add (k * 4)).off + 1, none⟩) trivial d1
              have d2 := hsR.cell (p := ⟨(ad.add (k * 4)).block, (ad.add (k * 4)).off + 2, none⟩) trivial d2
              have d3 := hsR.cell (p := ⟨(ad.add (k * 4)).block, (ad.add (k * 4)).off + 3, none⟩) trivial d3
              have t0 : wR.cell? ⟨w.heap.size, 0, none⟩ = some (.int .i64 a.at_.wall) := hrow1.cell 0
              have t1 : wR.cell? ⟨w.heap.size, 1, none⟩ = some (.int .i64 a.at_.tie) := hrow1.cell 1
              have t2 : wR.cell? ⟨w.heap.size, 2, none⟩ = some (.bool a.drop) := hrow1.cell 2
              have t3 : wR.cell? ⟨w.heap.size, 3, none⟩ = some (.string (str a.data)) := hrow1.cell 3
              have hsz7 : w.heap.size + 1 ≤ wR.heap.size := Nat.le_trans hsz hsR.size
              have Hown := Lib.hid hown1
              have Hrow := Lib.hid hrow1
              have HS := Lib.hid hS1
              clear hown1 hrow1 hS1 hsR
              go_wp2
              go_quiet (fail)
              rename_i nq
              go_wp2_with (at_builtin; refine stopAt ?_)
              unfold Hid
              have hsq := (Same.refl (fun _ => True) wR).drewN nq
              refine wpList_appR1 TVer verCs_len verCs_one (w := wR.drewN nq) (c := x) (B := w.heap.size + 1) rfl (.tmp 39) (.tmp 44) rfl rfl rfl (by first | rfl | simp) (Hown.out.keepAll hsq) (Nat.le_trans hsz7 hsq.size) (by have := Hlen.out; simp at this; simp only [maxLen]; first | omega | (simp; omega)) (by have := Hlen.out; simp at this; first | omega | (simp; omega)) ?_
              intro v9 w9 k1 k2
              have K1 := Lib.hid k1
              have K2 := Lib.hid k2
              have Hsq := Lib.hid hsq
              clear k1 k2 hsq
              go_wp2
              go_roundw
              case rel =>
                have hs9 : Same (fun q => q < w.heap.size + 1) wR w9 := (Hsq.out.mono fun _ _ _ => trivial).trans K2.out
                exact ⟨k + 1, false, by go_num, rfl, by omega, ⟨_, K1.out, Heq.out, by have := Hlen.out; simp only [List.length_append, List.length_singleton] at this ⊢; omega⟩, Hrow.out.keep hs9 (by omega), Nat.le_trans hsz7 hs9.size, HS.out.trans' hs9 fun q hq _ => by omega⟩
              case measure => simp [intOf]; omega
          · have hne : ¬ x.at_ = a.at_ := fun h => ht (by rw [h])
            have heq' : O ++ [x] ++ withR a false (l.drop (k + 1)) = withR a false l := by
              rw [← heq]
              simp [withR, hlb, hne]
            have Heq := Lib.hid heq'
            have Hlen0 := Lib.hid (show O.length ≤ k + 1 from by have := hlen; simp at this; omega)
            have Hlen := Lib.hid (show O.length ≤ k + (false : Bool).toNat from by have := hlen; simp at this ⊢; omega)
            have y1 : (x.at_.tie != a.at_.tie) = true := by simpa using ht
            have y2 : (x.at_.tie == a.at_.tie) = false := by simpa using ht
            have Hw := Lib.hid hw
            clear heq heq' hlen hne ht hw
            rw [hlb] at gl
            clear hlb
            go_wp2
            refine wp_region_eq_lit (vs := [(.bool false), (.bool true), (.bool true), (.slice (some ad) l.length cp), (.int .i64 k), (.pointer (some (ad.add (k * 4)))), (.pointer (some (ad.add (k * 4)))), (stV x.at_), (.pointer (some ⟨w.heap.size, 0, none⟩)), (stV a.at_), (.bool true), (.bool false), (.bool false)]) (by kernel_rfl) (by kernel_rfl) rfl rfl ?_ ?_
            · refine ⟨?_, ?_, ?_, ?_, ?_, ?_, ?_, ?_, ?_, ?_, ?_, ?_, ?_, trivial⟩
              · intro ac wc hs hd hz hf hw K hK
                have e0 : ac.eval (.tmp 6) = (.bool false) := hf 6 rfl
                clear hd hz hf hw
                simp only [Region.wanted, if_true, Oper.wp, execOp, resolve, List.map_toArray, List.map_cons, List.map_nil, Option.map_some, Option.map_none, e0]
                go_simp
                exact hK _ _ rfl (Same.refl _ _)
              · intro ac wc hs hd hz hf hw K hK
                have e0 : ac.eval (.tmp 14) = (.bool false) := hw 0 rfl
                clear hd hz hf hw
                simp only [Region.wanted, if_true, Oper.wp, execOp, resolve, List.map_toArray, List.map_cons, List.map_nil, Option.map_some, Option.map_none, e0]
                go_simp
                exact hK _ _ rfl (Same.refl _ _)
              · intro ac wc hs hd hz hf hw K hK
                have e0 : ac.eval (.tmp 15) = (.bool true) := hw 1 rfl
                clear hd hz hf hw
                simp only [Region.wanted, if_true, Oper.wp, execOp, resolve, List.map_toArray, List.map_cons, List.map_nil, Option.map_some, Option.map_none, e0]
                go_simp
                exact hK _ _ rfl (Same.refl _ _)
              · intro ac wc hs hd hz hf hw K hK
                have eg : ac.eval (.tmp 16) = .bool true := hw 2 rfl
                refine run_wanted (j := 2) (d := 16) (b := true) rfl rfl hz (of_decide_eq_true rfl) eg ?_
                clear eg
                have e0 : ac.eval (.tmp 0) = (.slice (some ad) l.length cp) := hf 0 rfl
                clear hd hz hf hw
                simp only [Oper.wp, execOp, resolve, List.map_toArray, List.map_cons, List.map_nil, Option.map_some, Option.map_none, e0]
                go_simp
                exact hK _ _ rfl (Same.refl _ _)
              · intro ac wc hs hd hz hf hw K hK
                have eg : ac.eval (.tmp 16) = .bool true := hw 2 rfl
                refine run_wanted (j := 2) (d := 16) (b := true) rfl rfl hz (of_decide_eq_true rfl) eg ?_
                clear eg
                have e0 : ac.eval (.tmp 7) = (.int .i64 k) := hf 7 rfl
                clear hd hz hf hw
                simp only [Oper.wp, execOp, resolve, List.map_toArray, List.map_cons, List.map_nil, Option.map_some, Option.map_none, e0]
                go_simp
                exact hK _ _ rfl (Same.refl _ _)
              · intro ac wc hs hd hz hf hw K hK
                have eg : ac.eval (.tmp 16) = .bool true := hw 2 rfl
                refine run_wanted (j := 2) (d := 16) (b := true) rfl rfl hz (of_decide_eq_true rfl) eg ?_
                clear eg
                have e0 : ac.eval (.tmp 17) = (.slice (some ad) l.length cp) := hw 3 rfl
                have e1 : ac.eval (.tmp 18) = (.int .i64 k) := hw 4 rfl
                clear hd hz hf hw
                simp only [Oper.wp, execOp, resolve, List.map_toArray, List.map_cons, List.map_nil, Option.map_some, Option.map_none, e0, e1]
                go_simp
                exact hK _ _ rfl (Same.refl _ _)
              · intro ac wc hs hd hz hf hw K hK
                have eg : ac.eval (.tmp 16) = .bool true := hw 2 rfl
                refine run_wanted (j := 2) (d := 16) (b := true) rfl rfl hz (of_decide_eq_true rfl) eg ?_
                clear eg
                have e0 : ac.eval (.tmp 19) = (.pointer (some (ad.add (k * 4)))) := hw 5 rfl
                clear hd hz hf hw
                simp only [Oper.wp, execOp, resolve, List.map_toArray, List.map_cons, List.map_nil, Option.map_some, Option.map_none, e0]
                go_simp
                exact hK _ _ rfl (Same.refl _ _)
              · intro ac wc hs hd hz hf hw K hK
                have eg : ac.eval (.tmp 16) = .bool true := hw 2 rfl
                refine run_wanted (j := 2) (d := 16) (b := true) rfl rfl hz (of_decide_eq_true rfl) eg ?_
                clear eg
                have e0 : ac.eval (.tmp 20) = (.pointer (some (ad.add (k * 4)))) := hw 6 rfl
                have m0 : wc.cell? (ad.add (k * 4)) = some (.int .i64 x.at_.wall) := hs.cell (p := (ad.add (k * 4))) trivial d0
                have m1 : wc.cell? ⟨(ad.add (k * 4)).block, (ad.add (k * 4)).off + 1, none⟩ = some (.int .i64 x.at_.tie) := hs.cell (p := ⟨(ad.add (k * 4)).block, (ad.add (k * 4)).off + 1, none⟩) trivial d1
                clear hd hz hf hw
                simp only [Oper.wp, execOp, resolve, List.map_toArray, List.map_cons, List.map_nil, Option.map_some, Option.map_none, e0]
                go_simp
                exact hK _ _ rfl (Same.refl _ _)
              · intro ac wc hs hd hz hf hw K hK
                have eg : ac.eval (.tmp 16) = .bool true := hw 2 rfl
                refine run_wanted (j := 2) (d := 16) (b := true) rfl rfl hz (of_decide_eq_true rfl) eg ?_
                clear eg
                have e0 : ac.eval (.tmp 3) = (.pointer (some ⟨w.heap.size, 0, none⟩)) := hf 3 rfl
                clear hd hz hf hw
                simp only [Oper.wp, execOp, resolve, List.map_toArray, List.map_cons, List.map_nil, Option.map_some, Option.map_none, e0]
                go_simp
                exact hK _ _ rfl (Same.refl _ _)
              · intro ac wc hs hd hz hf hw K hK
                have eg : ac.eval (.tmp 16) = .bool true := hw 2 rfl
                refine run_wanted (j := 2) (d := 16) (b := true) rfl rfl hz (of_decide_eq_true rfl) eg ?_
                clear eg
                have e0 : ac.eval (.tmp 22) = (.pointer (some ⟨w.heap.size, 0, none⟩)) := hw 8 rfl
                have m0 : wc.cell? ⟨w.heap.size, 0, none⟩ = some (.int .i64 a.at_.wall) := hs.cell (p := ⟨w.heap.size, 0, none⟩) trivial t0
                have m1 : wc.cell? ⟨w.heap.size, 1, none⟩ = some (.int .i64 a.at_.tie) := hs.cell (p := ⟨w.heap.size, 1, none⟩) trivial t1
                clear hd hz hf hw
                simp only [Oper.wp, execOp, resolve, List.map_toArray, List.map_cons, List.map_nil, Option.map_some, Option.map_none, e0]
                go_simp
                exact hK _ _ rfl (Same.refl _ _)
              · intro ac wc hs hd hz hf hw K hK
                have eg : ac.eval (.tmp 16) = .bool true := hw 2 rfl
                refine run_wanted (j := 2) (d := 16) (b := true) rfl rfl hz (of_decide_eq_true rfl) eg ?_
                clear eg
                have e0 : ac.eval (.tmp 21) = (stV x.at_) := hw 7 rfl
                have e1 : ac.eval (.tmp 23) = (stV a.at_) := hw 9 rfl
                clear hd hz hf hw
                simp only [Oper.wp, execOp, resolve, List.map_toArray, List.map_cons, List.map_nil, Option.map_some, Option.map_none, e0, e1]
                go_simp
                refine (gl _).mono ?_
                rintro e wd ⟨rfl, hs2⟩
                exact hK _ _ rfl hs2
              · intro ac wc hs hd hz hf hw K hK
                have eg : ac.eval (.tmp 16) = .bool true := hw 2 rfl
                refine run_wanted (j := 2) (d := 16) (b := true) rfl rfl hz (of_decide_eq_true rfl) eg ?_
                clear eg
                have e0 : ac.eval (.tmp 24) = (.bool true) := hw 10 rfl
                clear hd hz hf hw
                simp only [Oper.wp, execOp, resolve, List.map_toArray, List.map_cons, List.map_nil, Option.map_some, Option.map_none, e0]
                go_simp
                exact hK _ _ rfl (Same.refl _ _)
              · intro ac wc hs hd hz hf hw K hK
                have e0 : ac.eval (.tmp 16) = (.bool true) := hw 2 rfl
                have e1 : ac.eval (.tmp 25) = (.bool false) := hw 11 rfl
                clear hd hz hf hw
                simp only [Region.wanted, if_true, Oper.wp, execOp, resolve, List.map_toArray, List.map_cons, List.map_nil, Option.map_some, Option.map_none, e0, e1]
                go_simp
                exact hK _ _ rfl (Same.refl _ _)
            · intro wR hsR
              simp only [putAll, Act.put, List.setIfInBounds_toArray, List.set_cons_succ, List.set_cons_zero]
              have hown1 := Hown.out.keepAll hsR
              have hrow1 := Hrow.out.keep hsR trivial
              have hS1 := HS.out.trans hsR
              have d0 := hsR.cell (p := ad.add (k * 4)) trivial d0
              have d1 := hsR.cell (p := ⟨(ad.add (k * 4)).block, (ad.add (k * 4)).off + 1, none⟩) trivial d1
              have d2 := hsR.cell (p := ⟨(ad.add (k * 4)).block, (ad.add (k * 4)).off + 2, none⟩) trivial d2
              have d3 := hsR.cell (p := ⟨(ad.add (k * 4)).block, (ad.add (k * 4)).off + 3, none⟩) trivial d3
              have t0 : wR.cell? ⟨w.heap.size, 0, none⟩ = some (.int .i64 a.at_.wall) := hrow1.cell 0
              have t1 : wR.cell? ⟨w.heap.size, 1, none⟩ = some (.int .i64 a.at_.tie) := hrow1.cell 1
              have t2 : wR.cell? ⟨w.heap.size, 2, none⟩ = some (.bool a.drop) := hrow1.cell 2
              have t3 : wR.cell? ⟨w.heap.size, 3, none⟩ = some (.string (str a.data)) := hrow1.cell 3
              have hsz7 : w.heap.size + 1 ≤ wR.heap.size := Nat.le_trans hsz hsR.size
              have Hown := Lib.hid hown1
              have Hrow := Lib.hid hrow1
              have HS := Lib.hid hS1
              clear hown1 hrow1 hS1 hsR
              rw [Hw.out] at d0
              go_wp2
              go_quiet (fail)
              rename_i nq
              go_wp2_with (at_builtin; refine stopAt ?_)
              unfold Hid
              have hsq := (Same.refl (fun _ => True) wR).drewN nq
              refine wpList_appR1 TVer verCs_len verCs_one (w := wR.drewN nq) (c := ⟨⟨a.at_.wall, x.at_.tie⟩, x.drop, x.data⟩) (B := w.heap.size + 1) rfl (.tmp 39) (.tmp 44) rfl rfl rfl (by first | rfl | simp) (Hown.out.keepAll hsq) (Nat.le_trans hsz7 hsq.size) (by have := Hlen.out; simp at this; simp only [maxLen]; first | omega | (simp; omega)) (by have := Hlen.out; simp at this; first | omega | (simp; omega)) ?_
              intro v9 w9 k1 k2
              rw [show (⟨⟨a.at_.wall, x.at_.tie⟩, x.drop, x.data⟩ : Ver) = x from by rw [← Hw.out]] at k1
              have K1 := Lib.hid k1
              have K2 := Lib.hid k2
              have Hsq := Lib.hid hsq
              clear k1 k2 hsq
              go_wp2
              go_roundw
              case rel =>
                have hs9 : Same (fun q => q < w.heap.size + 1) wR w9 := (Hsq.out.mono fun _ _ _ => trivial).trans K2.out
                exact ⟨k + 1, false, by go_num, rfl, by omega, ⟨_, K1.out, Heq.out, by have := Hlen.out; simp only [List.length_append, List.length_singleton] at this ⊢; omega⟩, Hrow.out.keep hs9 (by omega), Nat.le_trans hsz7 hs9.size, HS.out.trans' hs9 fun q hq _ => by omega⟩
              case measure => simp [intOf]; omega
      · cases hlb : lessB x.at_ a.at_
        · rcases hkd with ⟨-, he⟩ | ⟨-, hw⟩ | ⟨-, hw, ht⟩
          · have heq' : O ++ withR a true (l.drop (k + 1)) = withR a false l := by
              rw [← heq]
              simp [withR, hlb, he, less_irrefl]
            have Heq := Lib.hid heq'
            have Hlen0 := Lib.hid (show O.length ≤ k + 1 from by have := hlen; simp at this; omega)
            have Hlen := Lib.hid (show O.length ≤ k + (true : Bool).toNat from by have := hlen; simp at this ⊢; omega)
            rw [hlb] at gl
            have He := Lib.hid he
            clear he heq heq' hlen
            clear hlb
            go_wp2
            refine wp_region_eq_lit (vs := [(.bool true), (.bool false), (.bool false), undef, undef, undef, undef, undef, undef, undef, undef, undef, (.bool false)]) (by kernel_rfl) (by kernel_rfl) rfl rfl ?_ ?_
            · refine ⟨?_, ?_, ?_, ?_, ?_, ?_, ?_, ?_, ?_, ?_, ?_, ?_, ?_, trivial⟩
              · intro ac wc hs hd hz hf hw K hK
                have e0 : ac.eval (.tmp 6) = (.bool true) := hf 6 rfl
                clear hd hz hf hw
                simp only [Region.wanted, if_true, Oper.wp, execOp, resolve, List.map_toArray, List.map_cons, List.map_nil, Option.map_some, Option.map_none, e0]
                go_simp
                exact hK _ _ rfl (Same.refl _ _)
              · intro ac wc hs hd hz hf hw K hK
                have e0 : ac.eval (.tmp 14) = (.bool true) := hw 0 rfl
                clear hd hz hf hw
                simp only [Region.wanted, if_true, Oper.wp, execOp, resolve, List.map_toArray, List.map_cons, List.map_nil, Option.map_some, Option.map_none, e0]
                go_simp
                exact hK _ _ rfl (Same.refl _ _)
              · intro ac wc hs hd hz hf hw K hK
                have e0 : ac.eval (.tmp 15) = (.bool false) := hw 1 rfl
                clear hd hz hf hw
                simp only [Region.wanted, if_true, Oper.wp, execOp, resolve, List.map_toArray, List.map_cons, List.map_nil, Option.map_some, Option.map_none, e0]
                go_simp
                exact hK _ _ rfl (Same.refl _ _)
              · intro ac wc hs hd hz hf hw K hK
                have eg : ac.eval (.tmp 16) = .bool false := hw 2 rfl
                refine skip_wanted (j := 2) (d := 16) (b := false) rfl rfl hz (of_decide_eq_true rfl) eg ?_
                clear eg
                exact hK _ _ rfl (Same.refl _ _)
              · intro ac wc hs hd hz hf hw K hK
                have eg : ac.eval (.tmp 16) = .bool false := hw 2 rfl
                refine skip_wanted (j := 2) (d := 16) (b := false) rfl rfl hz (of_decide_eq_true rfl) eg ?_
                clear eg
                exact hK _ _ rfl (Same.refl _ _)
              · intro ac wc hs hd hz hf hw K hK
                have eg : ac.eval (.tmp 16) = .bool false := hw 2 rfl
                refine skip_wanted (j := 2) (d := 16) (b := false) rfl rfl hz (of_decide_eq_true rfl) eg ?_
                clear eg
                exact hK _ _ rfl (Same.refl _ _)
              · intro ac wc hs hd hz hf hw K hK
                have eg : ac.eval (.tmp 16) = .bool false := hw 2 rfl
                refine skip_wanted (j := 2) (d := 16) (b := false) rfl rfl hz (of_decide_eq_true rfl) eg ?_
                clear eg
                exact hK _ _ rfl (Same.refl _ _)
              · intro ac wc hs hd hz hf hw K hK
                have eg : ac.eval (.tmp 16) = .bool false := hw 2 rfl
                refine skip_wanted (j := 2) (d := 16) (b := false) rfl rfl hz (of_decide_eq_true rfl) eg ?_
                clear eg
                exact hK _ _ rfl (Same.refl _ _)
              · intro ac wc hs hd hz hf hw K hK
                have eg : ac.eval (.tmp 16) = .bool false := hw 2 rfl
                refine skip_wanted (j := 2) (d := 16) (b := false) rfl rfl hz (of_decide_eq_true rfl) eg ?_
                clear eg
                exact hK _ _ rfl (Same.refl _ _)
              · intro ac wc hs hd hz hf hw K hK
                have eg : ac.eval (.tmp 16) = .bool false := hw 2 rfl
                refine skip_wanted (j := 2) (d := 16) (b := false) rfl rfl hz (of_decide_eq_true rfl) eg ?_
                clear eg
                exact hK _ _ rfl (Same.refl _ _)
              · intro ac wc hs hd hz hf hw K hK
                have eg : ac.eval (.tmp 16) = .bool false := hw 2 rfl
                refine skip_wanted (j := 2) (d := 16) (b := false) rfl rfl hz (of_decide_eq_true rfl) eg ?_
                clear eg
                exact hK _ _ rfl (Same.refl _ _)
              · intro ac wc hs hd hz hf hw K hK
                have eg : ac.eval (.tmp 16) = .bool false := hw 2 rfl
                refine skip_wanted (j := 2) (d := 16) (b := false) rfl rfl hz (of_decide_eq_true rfl) eg ?_
                clear eg
                exact hK _ _ rfl (Same.refl _ _)
              · intro ac wc hs hd hz hf hw K hK
                have e0 : ac.eval (.tmp 16) = (.bool false) := hw 2 rfl
                have e1 : ac.eval (.tmp 25) = undef := hw 11 rfl
                clear hd hz hf hw
                simp only [Region.wanted, if_true, Oper.wp, execOp, resolve, List.map_toArray, List.map_cons, List.map_nil, Option.map_some, Option.map_none, e0, e1]
                go_simp
                exact hK _ _ rfl (Same.refl _ _)
            · intro wR hsR
              simp only [putAll, Act.put, List.setIfInBounds_toArray, List.set_cons_succ, List.set_cons_zero]
              have hown1 := Hown.out.keepAll hsR
              have hrow1 := Hrow.out.keep hsR trivial
              have hS1 := HS.out.trans hsR
              have d0 := hsR.cell (p := ad.add (k * 4)) trivial d0
              have d1 := hsR.cell (p := ⟨(ad.add (k * 4)).block, (ad.add (k * 4)).off + 1, none⟩) trivial d1
              have d2 := hsR.cell (p := ⟨(ad.add (k * 4)).block, (ad.add (k * 4)).off + 2, none⟩) trivial d2
              have d3 := hsR.cell (p := ⟨(ad.add (k * 4)).block, (ad.add (k * 4)).off + 3, none⟩) trivial d3
              have t0 : wR.cell? ⟨w.heap.size, 0, none⟩ = some (.int .i64 a.at_.wall) := hrow1.cell 0
              have t1 : wR.cell? ⟨w.heap.size, 1, none⟩ = some (.int .i64 a.at_.tie) := hrow1.cell 1
              have t2 : wR.cell? ⟨w.heap.size, 2, none⟩ = some (.bool a.drop) := hrow1.cell 2
              have t3 : wR.cell? ⟨w.heap.size, 3, none⟩ = some (.string (str a.data)) := hrow1.cell 3
              have hsz7 : w.heap.size + 1 ≤ wR.heap.size := Nat.le_trans hsz hsR.size
              have Hown := Lib.hid hown1
              have Hrow := Lib.hid hrow1
              have HS := Lib.hid hS1
              clear hown1 hrow1 hS1 hsR
              rw [He.out] at d0 d1
              go_wp2
              go_quiet (fail)
              rename_i nq
              go_wp2
              go_roundw
              case rel =>
                have hsq := (Same.refl (fun _ => True) wR).drewN nq
                exact ⟨k + 1, true, by go_num, rfl, by omega, ⟨_, Hown.out.keepAll hsq, Heq.out, by have := Hlen.out; omega⟩, Hrow.out.keep hsq trivial, Nat.le_trans hsz7 hsq.size, HS.out.trans hsq⟩
              case measure => simp [intOf]; omega
          · have hne : ¬ x.at_ = a.at_ := fun h => hw (by rw [h])
            have heq' : O ++ [x] ++ withR a true (l.drop (k + 1)) = withR a false l := by
              rw [← heq]
              simp [withR, hlb, hne]
            have Heq := Lib.hid heq'
            have Hlen0 := Lib.hid (show O.length ≤ k + 1 from by have := hlen; simp at this; omega)
            have Hlen := Lib.hid (show O.length ≤ k + (true : Bool).toNat from by have := hlen; simp at this ⊢; omega)
            have y1 : (x.at_.wall != a.at_.wall) = true := by simpa using hw
            have y2 : (x.at_.wall == a.at_.wall) = false := by simpa using hw
            clear heq heq' hlen hne hw
            rw [hlb] at gl
            clear hlb
            go_wp2
            refine wp_region_eq_lit (vs := [(.bool true), (.bool false), (.bool false), undef, undef, undef, undef, undef, undef, undef, undef, undef, (.bool false)]) (by kernel_rfl) (by kernel_rfl) rfl rfl ?_ ?_
            · refine ⟨?_, ?_, ?_, ?_, ?_, ?_, ?_, ?_, ?_, ?_, ?_, ?_, ?_, trivial⟩
              · intro ac wc hs hd hz hf hw K hK
                have e0 : ac.eval (.tmp 6) = (.bool true) := hf 6 rfl
                clear hd hz hf hw
                simp only [Region.wanted, if_true, Oper.wp, execOp, resolve, List.map_toArray, List.map_cons, List.map_nil, Option.map_some, Option.map_none, e0]
                go_simp
                exact hK _ _ rfl (Same.refl _ _)
              · intro ac wc hs hd hz hf hw K hK
                have e0 : ac.eval (.tmp 14) = (.bool true) := hw 0 rfl
                clear hd hz hf hw
                simp only [Region.wanted, if_true, Oper.wp, execOp, resolve, List.map_toArray, List.map_cons, List.map_nil, Option.map_some, Option.map_none, e0]
                go_simp
                exact hK _ _ rfl (Same.refl _ _)
              · intro ac wc hs hd hz hf hw K hK
                have e0 : ac.eval (.tmp 15) = (.bool false) := hw 1 rfl
                clear hd hz hf hw
                simp only [Region.wanted, if_true, Oper.wp, execOp, resolve, List.map_toArray, List.map_cons, List.map_nil, Option.map_some, Option.map_none, e0]
                go_simp
                exact hK _ _ rfl (Same.refl _ _)
              · intro ac wc hs hd hz hf hw K hK
                have eg : ac.eval (.tmp 16) = .bool false := hw 2 rfl
                refine skip_wanted (j := 2) (d := 16) (b := false) rfl rfl hz (of_decide_eq_true rfl) eg ?_
                clear eg
                exact hK _ _ rfl (Same.refl _ _)
              · intro ac wc hs hd hz hf hw K hK
                have eg : ac.eval (.tmp 16) = .bool false := hw 2 rfl
                refine skip_wanted (j := 2) (d := 16) (b := false) rfl rfl hz (of_decide_eq_true rfl) eg ?_
                clear eg
                exact hK _ _ rfl (Same.refl _ _)
              · intro ac wc hs hd hz hf hw K hK
                have eg : ac.eval (.tmp 16) = .bool false := hw 2 rfl
                refine skip_wanted (j := 2) (d := 16) (b := false) rfl rfl hz (of_decide_eq_true rfl) eg ?_
                clear eg
                exact hK _ _ rfl (Same.refl _ _)
              · intro ac wc hs hd hz hf hw K hK
                have eg : ac.eval (.tmp 16) = .bool false := hw 2 rfl
                refine skip_wanted (j := 2) (d := 16) (b := false) rfl rfl hz (of_decide_eq_true rfl) eg ?_
                clear eg
                exact hK _ _ rfl (Same.refl _ _)
              · intro ac wc hs hd hz hf hw K hK
                have eg : ac.eval (.tmp 16) = .bool false := hw 2 rfl
                refine skip_wanted (j := 2) (d := 16) (b := false) rfl rfl hz (of_decide_eq_true rfl) eg ?_
                clear eg
                exact hK _ _ rfl (Same.refl _ _)
              · intro ac wc hs hd hz hf hw K hK
                have eg : ac.eval (.tmp 16) = .bool false := hw 2 rfl
                refine skip_wanted (j := 2) (d := 16) (b := false) rfl rfl hz (of_decide_eq_true rfl) eg ?_
                clear eg
                exact hK _ _ rfl (Same.refl _ _)
              · intro ac wc hs hd hz hf hw K hK
                have eg : ac.eval (.tmp 16) = .bool false := hw 2 rfl
                refine skip_wanted (j := 2) (d := 16) (b := false) rfl rfl hz (of_decide_eq_true rfl) eg ?_
                clear eg
                exact hK _ _ rfl (Same.refl _ _)
              · intro ac wc hs hd hz hf hw K hK
                have eg : ac.eval (.tmp 16) = .bool false := hw 2 rfl
                refine skip_wanted (j := 2) (d := 16) (b := false) rfl rfl hz (of_decide_eq_true rfl) eg ?_
                clear eg
                exact hK _ _ rfl (Same.refl _ _)
              · intro ac wc hs hd hz hf hw K hK
                have eg : ac.eval (.tmp 16) = .bool false := hw 2 rfl
                refine skip_wanted (j := 2) (d := 16) (b := false) rfl rfl hz (of_decide_eq_true rfl) eg ?_
                clear eg
                exact hK _ _ rfl (Same.refl _ _)
              · intro ac wc hs hd hz hf hw K hK
                have e0 : ac.eval (.tmp 16) = (.bool false) := hw 2 rfl
                have e1 : ac.eval (.tmp 25) = undef := hw 11 rfl
                clear hd hz hf hw
                simp only [Region.wanted, if_true, Oper.wp, execOp, resolve, List.map_toArray, List.map_cons, List.map_nil, Option.map_some, Option.map_none, e0, e1]
                go_simp
                exact hK _ _ rfl (Same.refl _ _)
            · intro wR hsR
              simp only [putAll, Act.put, List.setIfInBounds_toArray, List.set_cons_succ, List.set_cons_zero]
              have hown1 := Hown.out.keepAll hsR
              have hrow1 := Hrow.out.keep hsR trivial
              have hS1 := HS.out.trans hsR
              have d0 := hsR.cell (p := ad.add (k * 4)) trivial d0
              have d1 := hsR.cell (p := ⟨(ad.add (k * 4)).block, (ad.add (k * 4)).off + 1, none⟩) trivial d1
              have d2 := hsR.cell (p := ⟨(ad.add (k * 4)).block, (ad.add (k * 4)).off + 2, none⟩) trivial d2
              have d3 := hsR.cell (p := ⟨(ad.add (k * 4)).block, (ad.add (k * 4)).off + 3, none⟩) trivial d3
              have t0 : wR.cell? ⟨w.heap.size, 0, none⟩ = some (.int .i64 a.at_.wall) := hrow1.cell 0
              have t1 : wR.cell? ⟨w.heap.size, 1, none⟩ = some (.int .i64 a.at_.tie) := hrow1.cell 1
              have t2 : wR.cell? ⟨w.heap.size, 2, none⟩ = some (.bool a.drop) := hrow1.cell 2
              have t3 : wR.cell? ⟨w.heap.size, 3, none⟩ = some (.string (str a.data)) := hrow1.cell 3
              have hsz7 : w.heap.size + 1 ≤ wR.heap.size := Nat.le_trans hsz hsR.size
              have Hown := Lib.hid hown1
              have Hrow := Lib.hid hrow1
              have HS := Lib.hid hS1
              clear hown1 hrow1 hS1 hsR
              go_wp2
              go_quiet (fail)
              rename_i nq
              go_wp2_with (at_builtin; refine stopAt ?_)
              unfold Hid
              have hsq := (Same.refl (fun _ => True) wR).drewN nq
              refine wpList_appR1 TVer verCs_len verCs_one (w := wR.drewN nq) (c := x) (B := w.heap.size + 1) rfl (.tmp 39) (.tmp 44) rfl rfl rfl (by first | rfl | simp) (Hown.out.keepAll hsq) (Nat.le_trans hsz7 hsq.size) (by have := Hlen.out; simp at this; simp only [maxLen]; first | omega | (simp; omega)) (by have := Hlen.out; simp at this; first | omega | (simp; omega)) ?_
              intro v9 w9 k1 k2
              have K1 := Lib.hid k1
              have K2 := Lib.hid k2
              have Hsq := Lib.hid hsq
              clear k1 k2 hsq
              go_wp2
              go_roundw
              case rel =>
                have hs9 : Same (fun q => q < w.heap.size + 1) wR w9 := (Hsq.out.mono fun _ _ _ => trivial).trans K2.out
                exact ⟨k + 1, true, by go_num, rfl, by omega, ⟨_, K1.out, Heq.out, by have := Hlen.out; simp only [List.length_append, List.length_singleton] at this ⊢; omega⟩, Hrow.out.keep hs9 (by omega), Nat.le_trans hsz7 hs9.size, HS.out.trans' hs9 fun q hq _ => by omega⟩
              case measure => simp [intOf]; omega
          · have hne : ¬ x.at_ = a.at_ := fun h => ht (by rw [h])
            have heq' : O ++ [x] ++ withR a true (l.drop (k + 1)) = withR a false l := by
              rw [← heq]
              simp [withR, hlb, hne]
            have Heq := Lib.hid heq'
            have Hlen0 := Lib.hid (show O.length ≤ k + 1 from by have := hlen; simp at this; omega)
            have Hlen := Lib.hid (show O.length ≤ k + (true : Bool).toNat from by have := hlen; simp at this ⊢; omega)
            have y1 : (x.at_.tie != a.at_.tie) = true := by simpa using ht
            have y2 : (x.at_.tie == a.at_.tie) = false := by simpa using ht
            have Hw := Lib.hid hw
            clear heq heq' hlen hne ht hw
            rw [hlb] at gl
            clear hlb
            go_wp2
            refine wp_region_eq_lit (vs := [(.bool true), (.bool false), (.bool false), undef, undef, undef, undef, undef, undef, undef, undef, undef, (.bool false)]) (by kernel_rfl) (by kernel_rfl) rfl rfl ?_ ?_
            · refine ⟨?_, ?_, ?_, ?_, ?_, ?_, ?_, ?_, ?_, ?_, ?_, ?_, ?_, trivial⟩
              · intro ac wc hs hd hz hf hw K hK
                have e0 : ac.eval (.tmp 6) = (.bool true) := hf 6 rfl
                clear hd hz hf hw
                simp only [Region.wanted, if_true, Oper.wp, execOp, resolve, List.map_toArray, List.map_cons, List.map_nil, Option.map_some, Option.map_none, e0]
                go_simp
                exact hK _ _ rfl (Same.refl _ _)
              · intro ac wc hs hd hz hf hw K hK
                have e0 : ac.eval (.tmp 14) = (.bool true) := hw 0 rfl
                clear hd hz hf hw
                simp only [Region.wanted, if_true, Oper.wp, execOp, resolve, List.map_toArray, List.map_cons, List.map_nil, Option.map_some, Option.map_none, e0]
                go_simp
                exact hK _ _ rfl (Same.refl _ _)
              · intro ac wc hs hd hz hf hw K hK
                have e0 : ac.eval (.tmp 15) = (.bool false) := hw 1 rfl
                clear hd hz hf hw
                simp only [Region.wanted, if_true, Oper.wp, execOp, resolve, List.map_toArray, List.map_cons, List.map_nil, Option.map_some, Option.map_none, e0]
                go_simp
                exact hK _ _ rfl (Same.refl _ _)
              · intro ac wc hs hd hz hf hw K hK
                have eg : ac.eval (.tmp 16) = .bool false := hw 2 rfl
                refine skip_wanted (j := 2) (d := 16) (b := false) rfl rfl hz (of_decide_eq_true rfl) eg ?_
                clear eg
                exact hK _ _ rfl (Same.refl _ _)
              · intro ac wc hs hd hz hf hw K hK
                have eg : ac.eval (.tmp 16) = .bool false := hw 2 rfl
                refine skip_wanted (j := 2) (d := 16) (b := false) rfl rfl hz (of_decide_eq_true rfl) eg ?_
                clear eg
                exact hK _ _ rfl (Same.refl _ _)
              · intro ac wc hs hd hz hf hw K hK
                have eg : ac.eval (.tmp 16) = .bool false := hw 2 rfl
                refine skip_wanted (j := 2) (d := 16) (b := false) rfl rfl hz (of_decide_eq_true rfl) eg ?_
                clear eg
                exact hK _ _ rfl (Same.refl _ _)
              · intro ac wc hs hd hz hf hw K hK
                have eg : ac.eval (.tmp 16) = .bool false := hw 2 rfl
                refine skip_wanted (j := 2) (d := 16) (b := false) rfl rfl hz (of_decide_eq_true rfl) eg ?_
                clear eg
                exact hK _ _ rfl (Same.refl _ _)
              · intro ac wc hs hd hz hf hw K hK
                have eg : ac.eval (.tmp 16) = .bool false := hw 2 rfl
                refine skip_wanted (j := 2) (d := 16) (b := false) rfl rfl hz (of_decide_eq_true rfl) eg ?_
                clear eg
                exact hK _ _ rfl (Same.refl _ _)
              · intro ac wc hs hd hz hf hw K hK
                have eg : ac.eval (.tmp 16) = .bool false := hw 2 rfl
                refine skip_wanted (j := 2) (d := 16) (b := false) rfl rfl hz (of_decide_eq_true rfl) eg ?_
                clear eg
                exact hK _ _ rfl (Same.refl _ _)
              · intro ac wc hs hd hz hf hw K hK
                have eg : ac.eval (.tmp 16) = .bool false := hw 2 rfl
                refine skip_wanted (j := 2) (d := 16) (b := false) rfl rfl hz (of_decide_eq_true rfl) eg ?_
                clear eg
                exact hK _ _ rfl (Same.refl _ _)
              · intro ac wc hs hd hz hf hw K hK
                have eg : ac.eval (.tmp 16) = .bool false := hw 2 rfl
                refine skip_wanted (j := 2) (d := 16) (b := false) rfl rfl hz (of_decide_eq_true rfl) eg ?_
                clear eg
                exact hK _ _ rfl (Same.refl _ _)
              · intro ac wc hs hd hz hf hw K hK
                have eg : ac.eval (.tmp 16) = .bool false := hw 2 rfl
                refine skip_wanted (j := 2) (d := 16) (b := false) rfl rfl hz (of_decide_eq_true rfl) eg ?_
                clear eg
                exact hK _ _ rfl (Same.refl _ _)
              · intro ac wc hs hd hz hf hw K hK
                have e0 : ac.eval (.tmp 16) = (.bool false) := hw 2 rfl
                have e1 : ac.eval (.tmp 25) = undef := hw 11 rfl
                clear hd hz hf hw
                simp only [Region.wanted, if_true, Oper.wp, execOp, resolve, List.map_toArray, List.map_cons, List.map_nil, Option.map_some, Option.map_none, e0, e1]
                go_simp
                exact hK _ _ rfl (Same.refl _ _)
            · intro wR hsR
              simp only [putAll, Act.put, List.setIfInBounds_toArray, List.set_cons_succ, List.set_cons_zero]
              have hown1 := Hown.out.keepAll hsR
              have hrow1 := Hrow.out.keep hsR trivial
              have hS1 := HS.out.trans hsR
              have d0 := hsR.cell (p := ad.add (k * 4)) trivial d0
              have d1 := hsR.cell (p := ⟨(ad.add (k * 4)).block, (ad.add (k * 4)).off + 1, none⟩) trivial d1
              have d2 := hsR.cell (p := ⟨(ad.add (k * 4)).block, (ad.add (k * 4)).off + 2, none⟩) trivial d2
              have d3 := hsR.cell (p := ⟨(ad.add (k * 4)).block, (ad.add (k * 4)).off + 3, none⟩) trivial d3
              have t0 : wR.cell? ⟨w.heap.size, 0, none⟩ = some (.int .i64 a.at_.wall) := hrow1.cell 0
              have t1 : wR.cell? ⟨w.heap.size, 1, none⟩ = some (.int .i64 a.at_.tie) := hrow1.cell 1
              have t2 : wR.cell? ⟨w.heap.size, 2, none⟩ = some (.bool a.drop) := hrow1.cell 2
              have t3 : wR.cell? ⟨w.heap.size, 3, none⟩ = some (.string (str a.data)) := hrow1.cell 3
              have hsz7 : w.heap.size + 1 ≤ wR.heap.size := Nat.le_trans hsz hsR.size
              have Hown := Lib.hid hown1
              have Hrow := Lib.hid hrow1
              have HS := Lib.hid hS1
              clear hown1 hrow1 hS1 hsR
              rw [Hw.out] at d0
              go_wp2
              go_quiet (fail)
              rename_i nq
              go_wp2_with (at_builtin; refine stopAt ?_)
              unfold Hid
              have hsq := (Same.refl (fun _ => True) wR).drewN nq
              refine wpList_appR1 TVer verCs_len verCs_one (w := wR.drewN nq) (c := ⟨⟨a.at_.wall, x.at_.tie⟩, x.drop, x.data⟩) (B := w.heap.size + 1) rfl (.tmp 39) (.tmp 44) rfl rfl rfl (by first | rfl | simp) (Hown.out.keepAll hsq) (Nat.le_trans hsz7 hsq.size) (by have := Hlen.out; simp at this; simp only [maxLen]; first | omega | (simp; omega)) (by have := Hlen.out; simp at this; first | omega | (simp; omega)) ?_
              intro v9 w9 k1 k2
              rw [show (⟨⟨a.at_.wall, x.at_.tie⟩, x.drop, x.data⟩ : Ver) = x from by rw [← Hw.out]] at k1
              have K1 := Lib.hid k1
              have K2 := Lib.hid k2
              have Hsq := Lib.hid hsq
              clear k1 k2 hsq
              go_wp2
              go_roundw
              case rel =>
                have hs9 : Same (fun q => q < w.heap.size + 1) wR w9 := (Hsq.out.mono fun _ _ _ => trivial).trans K2.out
                exact ⟨k + 1, true, by go_num, rfl, by omega, ⟨_, K1.out, Heq.out, by have := Hlen.out; simp only [List.length_append, List.length_singleton] at this ⊢; omega⟩, Hrow.out.keep hs9 (by omega), Nat.le_trans hsz7 hs9.size, HS.out.trans' hs9 fun q hq _ => by omega⟩
              case measure => simp [intOf]; omega
        · rcases hkd with ⟨-, he⟩ | ⟨-, hw⟩ | ⟨-, hw, ht⟩
          · rw [he, less_irrefl] at hlb
            cases hlb
          · have hne : ¬ x.at_ = a.at_ := fun h => hw (by rw [h])
            have heq' : O ++ [x] ++ withR a true (l.drop (k + 1)) = withR a false l := by
              rw [← heq]
              simp [withR, hlb, hne]
            have Heq := Lib.hid heq'
            have Hlen0 := Lib.hid (show O.length ≤ k + 1 from by have := hlen; simp at this; omega)
            have Hlen := Lib.hid (show O.length ≤ k + (true : Bool).toNat from by have := hlen; simp at this ⊢; omega)
            have y1 : (x.at_.wall != a.at_.wall) = true := by simpa using hw
            have y2 : (x.at_.wall == a.at_.wall) = false := by simpa using hw
            clear heq heq' hlen hne hw
            rw [hlb] at gl
            clear hlb
            go_wp2
            refine wp_region_eq_lit (vs := [(.bool true), (.bool false), (.bool false), undef, undef, undef, undef, undef, undef, undef, undef, undef, (.bool false)]) (by kernel_rfl) (by kernel_rfl) rfl rfl ?_ ?_
            · refine ⟨?_, ?_, ?_, ?_, ?_, ?_, ?_, ?_, ?_, ?_, ?_, ?_, ?_, trivial⟩
              · intro ac wc hs hd hz hf hw K hK
                have e0 : ac.eval (.tmp 6) = (.bool true) := hf 6 rfl
                clear hd hz hf hw
                simp only [Region.wanted, if_true, Oper.wp, execOp, resolve, List.map_toArray, List.map_cons, List.map_nil, Option.map_some, Option.map_none, e0]
                go_simp
                exact hK _ _ rfl (Same.refl _ _)
              · intro ac wc hs hd hz hf hw K hK
                have e0 : ac.eval (.tmp 14) = (.bool true) := hw 0 rfl
                clear hd hz hf hw
                simp only [Region.wanted, if_true, Oper.wp, execOp, resolve, List.map_toArray, List.map_cons, List.map_nil, Option.map_some, Option.map_none, e0]
                go_simp
                exact hK _ _ rfl (Same.refl _ _)
              · intro ac wc hs hd hz hf hw K hK
                have e0 : ac.eval (.tmp 15) = (.bool false) := hw 1 rfl
                clear hd hz hf hw
                simp only [Region.wanted, if_true, Oper.wp, execOp, resolve, List.map_toArray, List.map_cons, List.map_nil, Option.map_some, Option.map_none, e0]
                go_simp
                exact hK _ _ rfl (Same.refl _ _)
              · intro ac wc hs hd hz hf hw K hK
                have eg : ac.eval (.tmp 16) = .bool false := hw 2 rfl
                refine skip_wanted (j := 2) (d := 16) (b := false) rfl rfl hz (of_decide_eq_true rfl) eg ?_
                clear eg
                exact hK _ _ rfl (Same.refl _ _)
              · intro ac wc hs hd hz hf hw K hK
                have eg : ac.eval (.tmp 16) = .bool false := hw 2 rfl
                refine skip_wanted (j := 2) (d := 16) (b := false) rfl rfl hz (of_decide_eq_true rfl) eg ?_
                clear eg
                exact hK _ _ rfl (Same.refl _ _)
              · intro ac wc hs hd hz hf hw K hK
                have eg : ac.eval (.tmp 16) = .bool false := hw 2 rfl
                refine skip_wanted (j := 2) (d := 16) (b := false) rfl rfl hz (of_decide_eq_true rfl) eg ?_
                clear eg
                exact hK _ _ rfl (Same.refl _ _)
              · intro ac wc hs hd hz hf hw K hK
                have eg : ac.eval (.tmp 16) = .bool false := hw 2 rfl
                refine skip_wanted (j := 2) (d := 16) (b := false) rfl rfl hz (of_decide_eq_true rfl) eg ?_
                clear eg
                exact hK _ _ rfl (Same.refl _ _)
              · intro ac wc hs hd hz hf hw K hK
                have eg : ac.eval (.tmp 16) = .bool false := hw 2 rfl
                refine skip_wanted (j := 2) (d := 16) (b := false) rfl rfl hz (of_decide_eq_true rfl) eg ?_
                clear eg
                exact hK _ _ rfl (Same.refl _ _)
              · intro ac wc hs hd hz hf hw K hK
                have eg : ac.eval (.tmp 16) = .bool false := hw 2 rfl
                refine skip_wanted (j := 2) (d := 16) (b := false) rfl rfl hz (of_decide_eq_true rfl) eg ?_
                clear eg
                exact hK _ _ rfl (Same.refl _ _)
              · intro ac wc hs hd hz hf hw K hK
                have eg : ac.eval (.tmp 16) = .bool false := hw 2 rfl
                refine skip_wanted (j := 2) (d := 16) (b := false) rfl rfl hz (of_decide_eq_true rfl) eg ?_
                clear eg
                exact hK _ _ rfl (Same.refl _ _)
              · intro ac wc hs hd hz hf hw K hK
                have eg : ac.eval (.tmp 16) = .bool false := hw 2 rfl
                refine skip_wanted (j := 2) (d := 16) (b := false) rfl rfl hz (of_decide_eq_true rfl) eg ?_
                clear eg
                exact hK _ _ rfl (Same.refl _ _)
              · intro ac wc hs hd hz hf hw K hK
                have eg : ac.eval (.tmp 16) = .bool false := hw 2 rfl
                refine skip_wanted (j := 2) (d := 16) (b := false) rfl rfl hz (of_decide_eq_true rfl) eg ?_
                clear eg
                exact hK _ _ rfl (Same.refl _ _)
              · intro ac wc hs hd hz hf hw K hK
                have e0 : ac.eval (.tmp 16) = (.bool false) := hw 2 rfl
                have e1 : ac.eval (.tmp 25) = undef := hw 11 rfl
                clear hd hz hf hw
                simp only [Region.wanted, if_true, Oper.wp, execOp, resolve, List.map_toArray, List.map_cons, List.map_nil, Option.map_some, Option.map_none, e0, e1]
                go_simp
                exact hK _ _ rfl (Same.refl _ _)
            · intro wR hsR
              simp only [putAll, Act.put, List.setIfInBounds_toArray, List.set_cons_succ, List.set_cons_zero]
              have hown1 := Hown.out.keepAll hsR
              have hrow1 := Hrow.out.keep hsR trivial
              have hS1 := HS.out.trans hsR
              have d0 := hsR.cell (p := ad.add (k * 4)) trivial d0
              have d1 := hsR.cell (p := ⟨(ad.add (k * 4)).block, (ad.add (k * 4)).off + 1, none⟩) trivial d1
              have d2 := hsR.cell (p := ⟨(ad.add (k * 4)).block, (ad.add (k * 4)).off + 2, none⟩) trivial d2
              have d3 := hsR.cell (p := ⟨(ad.add (k * 4)).block, (ad.add (k * 4)).off + 3, none⟩) trivial d3
              have t0 : wR.cell? ⟨w.heap.size, 0, none⟩ = some (.int .i64 a.at_.wall) := hrow1.cell 0
              have t1 : wR.cell? ⟨w.heap.size, 1, none⟩ = some (.int .i64 a.at_.tie) := hrow1.cell 1
              have t2 : wR.cell? ⟨w.heap.size, 2, none⟩ = some (.bool a.drop) := hrow1.cell 2
              have t3 : wR.cell? ⟨w.heap.size, 3, none⟩ = some (.string (str a.data)) := hrow1.cell 3
              have hsz7 : w.heap.size + 1 ≤ wR.heap.size := Nat.le_trans hsz hsR.size
              have Hown := Lib.hid hown1
              have Hrow := Lib.hid hrow1
              have HS := Lib.hid hS1
              clear hown1 hrow1 hS1 hsR
              go_wp2
              go_quiet (fail)
              rename_i nq
              go_wp2_with (at_builtin; refine stopAt ?_)
              unfold Hid
              have hsq := (Same.refl (fun _ => True) wR).drewN nq
              refine wpList_appR1 TVer verCs_len verCs_one (w := wR.drewN nq) (c := x) (B := w.heap.size + 1) rfl (.tmp 39) (.tmp 44) rfl rfl rfl (by first | rfl | simp) (Hown.out.keepAll hsq) (Nat.le_trans hsz7 hsq.size) (by have := Hlen.out; simp at this; simp only [maxLen]; first | omega | (simp; omega)) (by have := Hlen.out; simp at this; first | omega | (simp; omega)) ?_
              intro v9 w9 k1 k2
              have K1 := Lib.hid k1
              have K2 := Lib.hid k2
              have Hsq := Lib.hid hsq
              clear k1 k2 hsq
              go_wp2
              go_roundw
              case rel =>
                have hs9 : Same (fun q => q < w.heap.size + 1) wR w9 := (Hsq.out.mono fun _ _ _ => trivial).trans K2.out
                exact ⟨k + 1, true, by go_num, rfl, by omega, ⟨_, K1.out, Heq.out, by have := Hlen.out; simp only [List.length_append, List.length_singleton] at this ⊢; omega⟩, Hrow.out.keep hs9 (by omega), Nat.le_trans hsz7 hs9.size, HS.out.trans' hs9 fun q hq _ => by omega⟩
              case measure => simp [intOf]; omega
          · have hne : ¬ x.at_ = a.at_ := fun h => ht (by rw [h])
            have heq' : O ++ [x] ++ withR a true (l.drop (k + 1)) = withR a false l := by
              rw [← heq]
              simp [withR, hlb, hne]
            have Heq := Lib.hid heq'
            have Hlen0 := Lib.hid (show O.length ≤ k + 1 from by have := hlen; simp at this; omega)
            have Hlen := Lib.hid (show O.length ≤ k + (true : Bool).toNat from by have := hlen; simp at this ⊢; omega)
            have y1 : (x.at_.tie != a.at_.tie) = true := by simpa using ht
            have y2 : (x.at_.tie == a.at_.tie) = false := by simpa using ht
            have Hw := Lib.hid hw
            clear heq heq' hlen hne ht hw
            rw [hlb] at gl
            clear hlb
            go_wp2
            refine wp_region_eq_lit (vs := [(.bool true), (.bool false), (.bool false), undef, undef, undef, undef, undef, undef, undef, undef, undef, (.bool false)]) (by kernel_rfl) (by kernel_rfl) rfl rfl ?_ ?_
            · refine ⟨?_, ?_, ?_, ?_, ?_, ?_, ?_, ?_, ?_, ?_, ?_, ?_, ?_, trivial⟩
              · intro ac wc hs hd hz hf hw K hK
                have e0 : ac.eval (.tmp 6) = (.bool true) := hf 6 rfl
                clear hd hz hf hw
                simp only [Region.wanted, if_true, Oper.wp, execOp, resolve, List.map_toArray, List.map_cons, List.map_nil, Option.map_some, Option.map_none, e0]
                go_simp
                exact hK _ _ rfl (Same.refl _ _)
              · intro ac wc hs hd hz hf hw K hK
                have e0 : ac.eval (.tmp 14) = (.bool true) := hw 0 rfl
                clear hd hz hf hw
                simp only [Region.wanted, if_true, Oper.wp, execOp, resolve, List.map_toArray, List.map_cons, List.map_nil, Option.map_some, Option.map_none, e0]
                go_simp
                exact hK _ _ rfl (Same.refl _ _)
              · intro ac wc hs hd hz hf hw K hK
                have e0 : ac.eval (.tmp 15) = (.bool false) := hw 1 rfl
                clear hd hz hf hw
                simp only [Region.wanted, if_true, Oper.wp, execOp, resolve, List.map_toArray, List.map_cons, List.map_nil, Option.map_some, Option.map_none, e0]
                go_simp
                exact hK _ _ rfl (Same.refl _ _)
              · intro ac wc hs hd hz hf hw K hK
                have eg : ac.eval (.tmp 16) = .bool false := hw 2 rfl
                refine skip_wanted (j := 2) (d := 16) (b := false) rfl rfl hz (of_decide_eq_true rfl) eg ?_
                clear eg
                exact hK _ _ rfl (Same.refl _ _)
              · intro ac wc hs hd hz hf hw K hK
                have eg : ac.eval (.tmp 16) = .bool false := hw 2 rfl
                refine skip_wanted (j := 2) (d := 16) (b := false) rfl rfl hz (of_decide_eq_true rfl) eg ?_
                clear eg
                exact hK _ _ rfl (Same.refl _ _)
              · intro ac wc hs hd hz hf hw K hK
                have eg : ac.eval (.tmp 16) = .bool false := hw 2 rfl
                refine skip_wanted (j := 2) (d := 16) (b := false) rfl rfl hz (of_decide_eq_true rfl) eg ?_
                clear eg
                exact hK _ _ rfl (Same.refl _ _)
              · intro ac wc hs hd hz hf hw K hK
                have eg : ac.eval (.tmp 16) = .bool false := hw 2 rfl
                refine skip_wanted (j := 2) (d := 16) (b := false) rfl rfl hz (of_decide_eq_true rfl) eg ?_
                clear eg
                exact hK _ _ rfl (Same.refl _ _)
              · intro ac wc hs hd hz hf hw K hK
                have eg : ac.eval (.tmp 16) = .bool false := hw 2 rfl
                refine skip_wanted (j := 2) (d := 16) (b := false) rfl rfl hz (of_decide_eq_true rfl) eg ?_
                clear eg
                exact hK _ _ rfl (Same.refl _ _)
              · intro ac wc hs hd hz hf hw K hK
                have eg : ac.eval (.tmp 16) = .bool false := hw 2 rfl
                refine skip_wanted (j := 2) (d := 16) (b := false) rfl rfl hz (of_decide_eq_true rfl) eg ?_
                clear eg
                exact hK _ _ rfl (Same.refl _ _)
              · intro ac wc hs hd hz hf hw K hK
                have eg : ac.eval (.tmp 16) = .bool false := hw 2 rfl
                refine skip_wanted (j := 2) (d := 16) (b := false) rfl rfl hz (of_decide_eq_true rfl) eg ?_
                clear eg
                exact hK _ _ rfl (Same.refl _ _)
              · intro ac wc hs hd hz hf hw K hK
                have eg : ac.eval (.tmp 16) = .bool false := hw 2 rfl
                refine skip_wanted (j := 2) (d := 16) (b := false) rfl rfl hz (of_decide_eq_true rfl) eg ?_
                clear eg
                exact hK _ _ rfl (Same.refl _ _)
              · intro ac wc hs hd hz hf hw K hK
                have eg : ac.eval (.tmp 16) = .bool false := hw 2 rfl
                refine skip_wanted (j := 2) (d := 16) (b := false) rfl rfl hz (of_decide_eq_true rfl) eg ?_
                clear eg
                exact hK _ _ rfl (Same.refl _ _)
              · intro ac wc hs hd hz hf hw K hK
                have e0 : ac.eval (.tmp 16) = (.bool false) := hw 2 rfl
                have e1 : ac.eval (.tmp 25) = undef := hw 11 rfl
                clear hd hz hf hw
                simp only [Region.wanted, if_true, Oper.wp, execOp, resolve, List.map_toArray, List.map_cons, List.map_nil, Option.map_some, Option.map_none, e0, e1]
                go_simp
                exact hK _ _ rfl (Same.refl _ _)
            · intro wR hsR
              simp only [putAll, Act.put, List.setIfInBounds_toArray, List.set_cons_succ, List.set_cons_zero]
              have hown1 := Hown.out.keepAll hsR
              have hrow1 := Hrow.out.keep hsR trivial
              have hS1 := HS.out.trans hsR
              have d0 := hsR.cell (p := ad.add (k * 4)) trivial d0
              have d1 := hsR.cell (p := ⟨(ad.add (k * 4)).block, (ad.add (k * 4)).off + 1, none⟩) trivial d1
              have d2 := hsR.cell (p := ⟨(ad.add (k * 4)).block, (ad.add (k * 4)).off + 2, none⟩) trivial d2
              have d3 := hsR.cell (p := ⟨(ad.add (k * 4)).block, (ad.add (k * 4)).off + 3, none⟩) trivial d3
              have t0 : wR.cell? ⟨w.heap.size, 0, none⟩ = some (.int .i64 a.at_.wall) := hrow1.cell 0
              have t1 : wR.cell? ⟨w.heap.size, 1, none⟩ = some (.int .i64 a.at_.tie) := hrow1.cell 1
              have t2 : wR.cell? ⟨w.heap.size, 2, none⟩ = some (.bool a.drop) := hrow1.cell 2
              have t3 : wR.cell? ⟨w.heap.size, 3, none⟩ = some (.string (str a.data)) := hrow1.cell 3
              have hsz7 : w.heap.size + 1 ≤ wR.heap.size := Nat.le_trans hsz hsR.size
              have Hown := Lib.hid hown1
              have Hrow := Lib.hid hrow1
              have HS := Lib.hid hS1
              clear hown1 hrow1 hS1 hsR
              rw [Hw.out] at d0
              go_wp2
              go_quiet (fail)
              rename_i nq
              go_wp2_with (at_builtin; refine stopAt ?_)
              unfold Hid
              have hsq := (Same.refl (fun _ => True) wR).drewN nq
              refine wpList_appR1 TVer verCs_len verCs_one (w := wR.drewN nq) (c := ⟨⟨a.at_.wall, x.at_.tie⟩, x.drop, x.data⟩) (B := w.heap.size + 1) rfl (.tmp 39) (.tmp 44) rfl rfl rfl (by first | rfl | simp) (Hown.out.keepAll hsq) (Nat.le_trans hsz7 hsq.size) (by have := Hlen.out; simp at this; simp only [maxLen]; first | omega | (simp; omega)) (by have := Hlen.out; simp at this; first | omega | (simp; omega)) ?_
              intro v9 w9 k1 k2
              rw [show (⟨⟨a.at_.wall, x.at_.tie⟩, x.drop, x.data⟩ : Ver) = x from by rw [← Hw.out]] at k1
              have K1 := Lib.hid k1
              have K2 := Lib.hid k2
              have Hsq := Lib.hid hsq
              clear k1 k2 hsq
              go_wp2
              go_roundw
              case rel =>
                have hs9 : Same (fun q => q < w.heap.size + 1) wR w9 := (Hsq.out.mono fun _ _ _ => trivial).trans K2.out
                exact ⟨k + 1, true, by go_num, rfl, by omega, ⟨_, K1.out, Heq.out, by have := Hlen.out; simp only [List.length_append, List.length_singleton] at this ⊢; omega⟩, Hrow.out.keep hs9 (by omega), Nat.le_trans hsz7 hs9.size, HS.out.trans' hs9 fun q hq _ => by omega⟩
              case measure => simp [intOf]; omega
    · obtain rfl : k = l.length := by omega
      rw [List.drop_length] at Heq
      cases bb
      · clear hS
        go_wp2_with (at_builtin; refine stopAt ?_)
        unfold Hid
        refine wpList_appR1 TVer verCs_len verCs_one (w := wr) (c := a) (B := w.heap.size + 1) rfl (.tmp 48) (.tmp 50) rfl rfl rfl (by first | rfl | simp) Hown.out hsz (by simp at hlen; simp only [maxLen]; omega) (by simp at hlen; omega) ?_
        intro v6 w6 k1 k2
        have K1 := Lib.hid k1
        have K2 := Lib.hid k2
        clear k1 k2
        go_wp2
        go_ret
        refine ⟨_, rfl, ?_, HS.out.trans' K2.out fun q hq _ => by omega⟩
        have e : O ++ [a] = putF l a := by rw [← HK.out, ← Heq.out]; simp [withR]
        rw [← e]
        exact K1.out.lower (by omega)
      · clear hS
        go_wp2
        go_ret
        refine ⟨_, rfl, ?_, HS.out⟩
        have e : O = putF l a := by rw [← HK.out, ← Heq.out]; simp [withR]
        rw [← e]
        exact Hown.out.lower (by omega)
end Go.Proofs.Ytoldelocfmpccaa
